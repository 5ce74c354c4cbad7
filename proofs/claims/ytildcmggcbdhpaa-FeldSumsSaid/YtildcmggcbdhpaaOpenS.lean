/- Arguments: slices of numbers and of points, as they come in. No conditions. -/
import Derived.Test.YtildcmggcbdhpaaOpen
import Derived.Test.YtildcmggcbdhpaaCurveG
import Derived.Deep.Slices
import Derived.ChangeArms
import Derived.OpenShut
namespace Go.Proofs.Ytildcmggcbdhpaa
open Go.Ex Lim
set_option maxRecDepth 100000

section
variable {H : Type} {enc : TypeId × Value → H} {W : World} {base : Nat} {sp : Nat → Bool} {hd : Bool} {n : Nat} {cs : List Value} {x : DataW H × List MemPlace}

theorem trod_u64 (h : DataW.trod enc Try.prog W base sp hd n 22 cs = some x) : ∃ m : Nat, m < B ∧ cs = [U m] := by
  have hu : Try.prog.underlying 22 = some (.int .u64) := by kernel_rfl
  obtain ⟨m, rfl, _, hw⟩ := DataW.trod_int hu h
  simp [Lit.wf, IntKind.min, IntKind.max, IntKind.signed, IntKind.bits] at hw
  refine ⟨m.toNat, ?_, ?_⟩
  · unfold B; omega
  · show [Value.int .u64 m] = [Value.int .u64 (m.toNat : Int)]
    rw [Int.toNat_of_nonneg (by omega)]

theorem list4 {α : Type} {l : List α} (h : l.length = 4) : ∃ a b c d, l = [a, b, c, d] := by
  match l, h with
  | [a, b, c, d], _ => exact ⟨a, b, c, d, rfl⟩

theorem trod_num (h : DataW.trod enc Try.prog W base sp hd n 24 cs = some x) : ∃ k : Nat, k < R ∧ cs = nl k := by
  have hu : Try.prog.underlying 24 = some (.array 4 22) := by kernel_rfl
  have h1 : Try.prog.cellsOf 22 = 1 := by kernel_rfl
  have h4 : Try.prog.cellsOf 24 = 4 := by kernel_rfl
  obtain ⟨xs, m, _, _, hl, hx, hi⟩ := DataW.trod_array hu h
  rw [h4] at hl
  obtain ⟨a, b, c, d, rfl⟩ := list4 hl
  have key : ∀ i, i < 4 → ∃ k : Nat, k < B ∧ (([a, b, c, d] : List Value).drop (i * 1)).take 1 = [U k] := fun i hi' => by
    have := hi i hi'
    rw [h1] at this
    obtain ⟨y, hy⟩ : ∃ y, xs[i]? = some y := ⟨_, List.getElem?_eq_getElem (by omega)⟩
    rw [hy] at this
    exact trod_u64 this
  obtain ⟨k0, hk0, e0⟩ := key 0 (by omega)
  obtain ⟨k1, hk1, e1⟩ := key 1 (by omega)
  obtain ⟨k2, hk2, e2⟩ := key 2 (by omega)
  obtain ⟨k3, hk3, e3⟩ := key 3 (by omega)
  simp at e0 e1 e2 e3
  obtain ⟨k, hk, rfl, rfl, rfl, rfl⟩ := num_of hk0 hk1 hk2 hk3
  exact ⟨k, hk, by rw [e0, e1, e2, e3]; rfl⟩

theorem list9 {α : Type} {l : List α} (h : l.length = 9) : ∃ c0 c1 c2 c3 c4 c5 c6 c7 c8, l = [c0, c1, c2, c3, c4, c5, c6, c7, c8] := by
  match l, h with
  | [c0, c1, c2, c3, c4, c5, c6, c7, c8], _ => exact ⟨c0, c1, c2, c3, c4, c5, c6, c7, c8, rfl⟩

theorem trod_w9 (h : DataW.trod enc Try.prog W base sp hd n 26 cs = some x) : ∃ p : W9, p.lt ∧ cs = W9.l p := by
  have ht : Try.prog.underlying 26 = some (.struct (Try.prog.fieldsOf 26)) := by kernel_rfl
  have h4 : Try.prog.underlying 4 = some .bool := by kernel_rfl
  have hc : Try.prog.cellsOf 26 = 9 := by kernel_rfl
  have hc24 : Try.prog.cellsOf 24 = 4 := by kernel_rfl
  have hc4 : Try.prog.cellsOf 4 = 1 := by kernel_rfl
  have hf : (Try.prog.fieldsOf 26).toList.map (fun f => (f.type, f.offset)) = [(24, 0), (24, 4), (4, 8)] := by kernel_rfl
  obtain ⟨xs, m, _, _, hl, hx, hi⟩ := DataW.trod_struct ht h
  generalize hfs : (Try.prog.fieldsOf 26) = fs at *
  obtain ⟨f0, f1, f2, h3⟩ := list3 (l := fs.toList) (by have := congrArg List.length hf; simpa using this)
  rw [h3] at hf
  simp only [List.map_cons, List.map_nil, List.cons.injEq, Prod.mk.injEq, and_true] at hf
  obtain ⟨⟨t0, o0⟩, ⟨t1, o1⟩, ⟨t2, o2⟩⟩ := hf
  have hsz : fs.size = 3 := by rw [← Array.length_toList, h3]; rfl
  have get : ∀ i f, fs.toList[i]? = some f → fs[i]? = some f := fun i f h => by rw [← Array.getElem?_toList]; exact h
  have g0 := hi 0 f0 (get 0 f0 (by rw [h3]; rfl))
  have g1 := hi 1 f1 (get 1 f1 (by rw [h3]; rfl))
  have g2 := hi 2 f2 (get 2 f2 (by rw [h3]; rfl))
  rw [t0, o0, hc24] at g0
  rw [t1, o1, hc24] at g1
  rw [t2, o2, hc4] at g2
  have hxl : xs.length = 3 := by rw [hx, hsz]
  obtain ⟨y0, y1, y2, rfl⟩ := list3 hxl
  rw [hc] at hl
  obtain ⟨c0, c1, c2, c3, c4, c5, c6, c7, c8, rfl⟩ := list9 hl
  obtain ⟨a, ha, e0⟩ := trod_num g0
  obtain ⟨b, hb, e1⟩ := trod_num g1
  obtain ⟨q, e2, _⟩ := DataW.trod_bool h4 g2
  unfold nl at e0 e1
  simp at e0 e1 e2
  obtain ⟨rfl, rfl, rfl, rfl⟩ := e0
  obtain ⟨rfl, rfl, rfl, rfl⟩ := e1
  exact ⟨⟨a, b, q⟩, ⟨ha, hb⟩, by rw [e2]; rfl⟩

/-- elements of a slice, as they come in -/
theorem open_row {e : TypeId} {c : Nat} {α : Type} [Inhabited α] {f : α → List Value} {ok : α → Prop} (hc : Try.prog.cellsOf e = c) (hc0 : 0 < c) (hf : ∀ a, (f a).length = c)
    (ho : ∀ (n : Nat) (cs : List Value) (x : DataW H × List MemPlace), DataW.trod enc Try.prog W 0 sp hd n e cs = some x → ∃ a, ok a ∧ cs = f a)
    {t : TypeId} (ht : Try.prog.underlying t = some (.slice e)) {v : Value} {d : DataW H} {ps : List MemPlace} (h : DataW.Trod enc Try.prog W 0 sp hd t v d ps) (hv : ∃ a len cap, v = .slice a len cap) :
    (∃ a cap, v = .slice a 0 cap) ∨ ∃ (g off cap : Nat) (kc : List Value) (kt : TypeId) (l : List α), 0 < l.length ∧ v = SL g off l.length cap ∧ (xE g kc kt).holds W ∧ (∀ a ∈ l, ok a) ∧
      ∀ (i : Nat) (a : α), l[i]? = some a → ∀ (j : Nat) (v : Value), (f a)[j]? = some v → kc[off + i * c + j]? = some v := by
  obtain ⟨a, len, cap, rfl⟩ := hv
  obtain ⟨fuel, h⟩ := h
  have h' : DataW.trod enc Try.prog W 0 sp hd fuel t [.slice a len cap] = some (d, ps) := h
  rcases Go.Deep.open_slice ht h' with ⟨h1, _⟩ | ⟨a1, len1, cap1, m, k, D, Pl, h1, _, hl, _, hm, _, hall⟩
  · simp only [List.cons.injEq, and_true] at h1
    injection h1 with _ h2 _
    subst h2
    exact .inl ⟨_, _, rfl⟩
  · simp only [List.cons.injEq, and_true] at h1
    injection h1 with h2 h3 h4
    subst h2 h3 h4
    by_cases h0 : len = 0
    · subst h0
      exact .inl ⟨_, _, rfl⟩
    · right
      have hlm : len ≤ m := by rw [hm]; split <;> omega
      obtain ⟨F, hF⟩ := Go.Deep.choose_lt (α := α) (n := len) (p := fun i a => ok a ∧ ∀ j v, (f a)[j]? = some v → W.cell? ((a1.add (i * c)).add j) = some v) (fun i hi => by
        obtain ⟨cs', q1, q2⟩ := hall i (by omega)
        rw [hc] at q1
        obtain ⟨a, ha, rfl⟩ := ho _ _ _ q2
        obtain ⟨_, _, q3⟩ := World.cells?_some q1
        exact ⟨a, ha, fun j v hj => by rw [q3 j (by have := lt_of_get hj; rw [hf] at this; exact this)]; exact hj⟩)
      -- the block
      have hz : ∃ v, (f (F 0))[0]? = some v := ⟨_, List.getElem?_eq_getElem (by rw [hf]; exact hc0)⟩
      obtain ⟨v0, hv0⟩ := hz
      have hcell := (hF 0 (by omega)).2 0 v0 hv0
      have ha0 : (a1.add (0 * c)).add 0 = a1 := by simp [Addr.add]
      rw [ha0] at hcell
      obtain ⟨kc, kt, fr, hb, hs⟩ : ∃ kc kt fr, W.heap[a1.block]? = some (.cells kc kt fr) ∧ a1.spot = none := by
        unfold World.cell? at hcell
        cases hh : W.heap[a1.block]? with
        | none => rw [hh] at hcell; cases hcell
        | some o =>
          rw [hh] at hcell
          cases o with
          | cells kc kt fr =>
            refine ⟨kc, kt, fr, rfl, ?_⟩
            cases hsp : a1.spot with
            | none => rfl
            | some _ => simp [hsp] at hcell
          | _ => cases hcell
      have ea : a1 = ⟨a1.block, a1.off, none⟩ := by rw [← hs]
      refine ⟨a1.block, a1.off, cap, kc.toList, kt, (List.range len).map F, by simp; omega, by rw [List.length_map, List.length_range]; show Value.slice (some a1) len cap = Value.slice (some ⟨a1.block, a1.off, none⟩) len cap; rw [← ea], ⟨fr, by simpa [xE] using hb, fun h => by cases h⟩, fun a ha => ?_, fun i a hi j v hj => ?_⟩
      · rw [List.mem_map] at ha
        obtain ⟨i, hi, rfl⟩ := ha
        exact (hF i (by simpa using hi)).1
      · have hlt := lt_of_get hi
        simp only [List.length_map, List.length_range] at hlt
        rw [List.getElem?_map, List.getElem?_range hlt] at hi
        simp only [Option.map_some, Option.some.injEq] at hi
        subst hi
        have h5 := (hF i hlt).2 j v hj
        rw [ea, Addr.add_mid, Addr.add_mid] at h5
        have hh : (xE a1.block kc.toList kt).holds W := ⟨fr, by simpa [xE] using hb, fun h => by cases h⟩
        rw [cell_of_holds hh ⟨a1.block, a1.off + i * c + j, none⟩ rfl rfl] at h5
        exact h5

theorem open_nums {v : Value} {d : DataW H} {ps : List MemPlace} (h : DataW.Trod enc Try.prog W 0 sp hd 39 v d ps) (hv : ∃ a len cap, v = .slice a len cap) :
    (∃ a cap, v = .slice a 0 cap) ∨ ∃ (g off cap : Nat) (kc : List Value) (kt : TypeId) (l : List Nat), 0 < l.length ∧ v = SL g off l.length cap ∧ (xE g kc kt).holds W ∧ (∀ a ∈ l, a < R) ∧
      ∀ (i : Nat) (a : Nat), l[i]? = some a → ∀ (j : Nat) (v : Value), (nl a)[j]? = some v → kc[off + i * 4 + j]? = some v :=
  open_row (by kernel_rfl) (Nat.zero_lt_succ _) (fun _ => rfl) (fun _ _ _ h => trod_num h) sl39 h hv
instance : Inhabited W9 := ⟨⟨0, 0, false⟩⟩
theorem open_pts {v : Value} {d : DataW H} {ps : List MemPlace} (h : DataW.Trod enc Try.prog W 0 sp hd 40 v d ps) (hv : ∃ a len cap, v = .slice a len cap) :
    (∃ a cap, v = .slice a 0 cap) ∨ ∃ (g off cap : Nat) (kc : List Value) (kt : TypeId) (l : List W9), 0 < l.length ∧ v = SL g off l.length cap ∧ (xE g kc kt).holds W ∧ (∀ a ∈ l, a.lt) ∧
      ∀ (i : Nat) (a : W9), l[i]? = some a → ∀ (j : Nat) (v : Value), (W9.l a)[j]? = some v → kc[off + i * 9 + j]? = some v :=
  open_row (by kernel_rfl) (Nat.zero_lt_succ _) (fun _ => rfl) (fun _ _ _ h => trod_w9 h) sl40 h hv
end

end Go.Proofs.Ytildcmggcbdhpaa
