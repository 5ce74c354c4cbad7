/- Slices in the symbolic run: elements by an index that is not a literal, append. No conditions but that what is told of types is so. -/
import Derived.Test.YtildcmggcbdhpaaExF
import Derived.Laws.AppendOwn
import Derived.Laws.Entries
import Derived.Deep.MidRow
namespace Go.Ex
open Go.RowKit

theorem run_val {P : Program} {s : Sem Value} {w w' : World} {v : Value} (h : s.run P w = .ok v w') : (do pure (Next.value (← s)) : Sem Next).run P w = .ok (.value v) w' := by
  rw [Sem.run_bind, h]
  rfl

section
variable {P : Program} {w0 : World}

/-- what is read, in slot d, of a block that is known -/
def ldF (d j : Nat) (e : Ent) (ty : TypeId) (off : Nat) (v : Value) : Rec := .fact d (fun _ => [(j, e)]) (fun _ => do pure (.value (← Instr.loadAt ty (.pointer (some ⟨e.g, off, none⟩))))) v
/-- an element's address, in slot d -/
def ixF (d : Nat) (t : TypeId) (b off len cap i at_ : Nat) : Rec := .fact d (fun _ => []) (fun _ => do pure (.value (← Instr.indexAt t (.slice (some ⟨b, off, none⟩) len cap) (.int .i64 (i : Int))))) (.pointer (some ⟨b, at_, none⟩))

theorem run_ix (t : TypeId) (e : TypeId) (b off len cap size i : Nat) (ht : P.underlying t = some (.slice e)) (hi : (P.info? e).map (·.size) = some size) (h : i < len) (w : World) :
    (Instr.indexAt t (.slice (some ⟨b, off, none⟩) len cap) (.int .i64 (i : Int))).run P w = .ok (.pointer (some ⟨b, off + i * size, none⟩)) w := by
  have he : P.elem t = e := by simp [Program.elem, ht]
  rw [run_indexAt_slice w t _ len cap .i64 (i : Int) (by rw [he]; exact ht), if_pos ⟨by omega, by omega⟩, he]
  cases hq : P.info? e with
  | none => simp [hq] at hi
  | some inf =>
    have hs : inf.size = size := by simpa [hq] using hi
    simp [sizeOf, typeInfo, hq, hs, Addr.add_mid]

theorem rangeAt_of {e : Ent} {w : World} (h : e.holds w) {off : Nat} {cs : List Value} (hc : ∀ j v, cs[j]? = some v → e.cs[off + j]? = some v) : w.rangeAt e.g off cs := fun j v hj => by
  rw [cell_of_holds h ⟨e.g, off + j, none⟩ rfl rfl]
  exact hc j v hj

theorem run_ld {e : Ent} {w : World} (h : e.holds w) {off : Nat} {cs : List Value} (hc : ∀ j v, cs[j]? = some v → e.cs[off + j]? = some v) {ty : TypeId} {d : TypeDesc} (hu : P.underlying ty = some d) (hd : d.isRow = true) (hi : (P.info? ty).map (·.size) = some cs.length) :
    (Instr.loadAt ty (.pointer (some ⟨e.g, off, none⟩))).run P w = .ok (.agg cs.toArray) w := run_loadAt_mid w e.g off ty cs d (rangeAt_of h hc) hu hd hi

theorem ldF_ok {d j : Nat} {e : Ent} {ty : TypeId} {off : Nat} {cs : List Value} {td : TypeDesc} (hc : ∀ k v, cs[k]? = some v → e.cs[off + k]? = some v) (hu : P.underlying ty = some td) (hd : td.isRow = true) (hi : (P.info? ty).map (·.size) = some cs.length) :
    (ldF d j e ty off (.agg cs.toArray)).Ok P w0 := fun _ _ _ hn => run_val (run_ld (hn _ List.mem_cons_self) hc hu hd hi)
theorem ixF_ok {d : Nat} {t e : TypeId} {b off len cap size i at_ : Nat} (ht : P.underlying t = some (.slice e)) (hi : (P.info? e).map (·.size) = some size) (h : i < len) (ha : at_ = off + i * size) : (ixF d t b off len cap i at_).Ok P w0 :=
  fun _ w _ _ => run_val (by rw [ha]; exact run_ix t e b off len cap size i ht hi h w)

/-- zero values in a row -/
def zs (z : Array Value) (n : Nat) : List Value := (Builtin.zeroCells z n).toList

theorem zs_len (z : Array Value) (n : Nat) : (zs z n).length = n * z.size := by unfold zs; rw [Array.length_toList, size_zeroCells]

theorem zs_drop (z : Array Value) (a b : Nat) : (zs z (a + b)).drop (a * z.size) = zs z b := by
  apply List.ext_getElem?
  intro i
  rw [List.getElem?_drop]
  unfold zs Builtin.zeroCells
  rw [Array.getElem?_toList, Array.getElem?_toList, Array.getElem?_map, Array.getElem?_map, Array.getElem?_range, Array.getElem?_range]
  have e : (a + b) * z.size = a * z.size + b * z.size := Nat.add_mul a b _
  by_cases hi : i < b * z.size
  · rw [if_pos (by omega), if_pos hi]
    simp only [Option.map_some]
    rw [Nat.add_comm, Nat.add_mul_mod_self_right]
  · rw [if_neg (by omega), if_neg hi]

/-- What is told of a slice's type: its elements'. -/
structure Elt (P : Program) (t e : TypeId) (size bytes : Nat) (z : Array Value) : Prop where
  t : P.underlying t = some (.slice e)
  i : (P.info? e).map (fun i => (i.zero.map (·.cells), i.size, i.bytes)) = some (some z, size, bytes)
  zs : z.size = size
  pos : 0 < size
  big : bytes ≤ 140737488355328

def apS (t ty : TypeId) (s x : Value) : Sem Next := do pure (.value (← Builtin.append_ #[t, t] ty #[s, x]))

/-- append to a row of the caller's own -/
def apF (d : Nat) (t ty e ex : TypeId) (z : Array Value) (j jx n m room : Nat) (xs news : List Value) : Rec :=
  .eff (some d) [] (fun σ => [(j, ⟨σ 0, xs ++ zs z room, [], e, true⟩), (jx, ⟨σ 1, news, [], ex, true⟩)])
    (fun σ => apS t ty (.slice (some ⟨σ 0, 0, none⟩) n (n + room)) (.slice (some ⟨σ 1, 0, none⟩) m m)) 2
    (fun _ δ => .slice (some ⟨δ 0, 0, none⟩) (n + m) (n + m + δ 1)) (fun _ δ => [(j, ⟨δ 0, xs ++ (news ++ zs z (δ 1)), [], e, true⟩)]) (fun _ _ => []) (.at_ j)

/-- append to nothing; x is operand number q; its block gives its place to the new one -/
def ap0 (d q : Nat) (t ty e ex : TypeId) (z : Array Value) (jx m : Nat) (news : List Value) : Rec :=
  .eff (some d) [] (fun σ => [(jx, ⟨σ q, news, [], ex, true⟩)])
    (fun σ => apS t ty (.slice none 0 0) (.slice (some ⟨σ q, 0, none⟩) m m)) 2
    (fun _ δ => .slice (some ⟨δ 0, 0, none⟩) m (m + δ 1)) (fun _ δ => [(jx, ⟨δ 0, news ++ zs z (δ 1), [], e, true⟩)]) (fun _ _ => []) (.at_ jx)

theorem setRow_size (w : World) (g : Nat) (c : Array Value) : (w.setRow g c).heap.size = w.heap.size := by simp [World.setRow]

theorem apF_ok {d : Nat} {t ty e ex : TypeId} {size bytes : Nat} {z : Array Value} (he : Elt P t e size bytes z) {j jx n m room : Nat} {xs news : List Value} (hj : j ≠ jx)
    (hx : xs.length = n * size) (hn : news.length = m * size) (h1 : ∀ u ∈ news, u.oneCell' = true) (hsm : n + m ≤ 1048576) (hb : (n + m) * bytes ≤ 140737488355328) : (apF d t ty e ex z j jx n m room xs news).Ok P w0 := by
  intro γ w _ hneed hdiff
  have hA := hneed _ (List.mem_cons_self)
  have hB := hneed _ (List.mem_cons_of_mem _ List.mem_cons_self)
  have hne := hdiff _ (List.mem_cons_self) _ (List.mem_cons_of_mem _ List.mem_cons_self) hj rfl
  dsimp only at hA hB hne
  cases hq : P.info? e with
  | none => have := he.i; simp [hq] at this
  | some i =>
    have hi := he.i
    rw [hq] at hi
    simp only [Option.map_some, Option.some.injEq, Prod.mk.injEq] at hi
    obtain ⟨hz, hs, hby⟩ := hi
    cases hzq : i.zero with
    | none => rw [hzq] at hz; cases hz
    | some z0 =>
      rw [hzq] at hz
      simp only [Option.map_some, Option.some.injEq] at hz
      have hl : news.length = m * i.size := by rw [hs]; exact hn
      have hnews : ∀ k u, news[k]? = some u → w.cell? ((⟨γ 1, 0, none⟩ : Addr).add k) = some u := fun k u hk => by
        rw [Addr.add_mid, Nat.zero_add]
        exact (cell_of_holds hB ⟨γ 1, k, none⟩ rfl rfl).trans hk
      have hw : w.heap[γ 0]? = some (.cells (xs ++ zs z room).toArray e (0, 0)) := hA
      refine .inl ?_
      by_cases hr : m ≤ room
      · -- there is room
        have hfit : n * i.size + news.length ≤ (xs ++ zs z room).toArray.size := by
          rw [List.size_toArray, List.length_append, zs_len, hx, hn, hs, he.zs]
          exact Nat.add_le_add_left (Nat.mul_le_mul_right _ hr) _
        have hrun := run_append_room (P := P) w t ty e i he.t hq (γ 0) n (n + room) _ hw ⟨γ 1, 0, none⟩ m m news hl hnews h1 (by omega) hfit
        refine ⟨_, _, run_val hrun, fun q => if q = 0 then γ 0 else if q = 1 then room - m else 0, fun q hq => ?_, ?_, ?_⟩
        · dsimp only; rw [if_neg (by omega), if_neg (by omega)]
        · show Value.slice _ _ _ = Value.slice _ _ _
          congr 1
          dsimp only
          rw [if_neg (by decide), if_pos rfl]
          omega
        · have hcur : (List.take (n * i.size) (xs ++ zs z room) ++ news ++ List.drop (n * i.size + news.length) (xs ++ zs z room)) = xs ++ (news ++ zs z (room - m)) := by
            have e1 : n * i.size = xs.length := by rw [hs, hx]
            rw [e1, List.take_left, List.append_assoc, List.drop_append, Nat.add_sub_cancel_left, List.drop_eq_nil_of_le (by omega), List.nil_append, hn]
            have := zs_drop z m (room - m)
            rw [show m + (room - m) = room by omega, he.zs] at this
            rw [this]
          have hrow := setRow_heap w (γ 0) _ (List.take (n * i.size) (xs ++ zs z room) ++ news ++ List.drop (n * i.size + news.length) (xs ++ zs z room)).toArray e _ hw
          rw [hcur] at hrow ⊢
          refine ⟨rfl, rfl, rfl, by rw [setRow_size]; exact Nat.le_refl _, fun b hb' hf => setRow_other w _ b _ (fun hh => ?_), fun p hp => ?_, fun _ h => (by cases h), fun p hp q hq' hne' => ?_, fun _ _ _ h => (by cases h), List.Pairwise.nil⟩
          · exact hf _ (List.mem_cons_self) (by simp) hh.symm
          · simp only [List.mem_cons, List.not_mem_nil, or_false] at hp
            subst hp
            exact ⟨hrow, _, List.mem_cons_self, rfl, .inl rfl⟩
          · simp only [List.mem_cons, List.not_mem_nil, or_false] at hp hq'
            subst hp hq'
            exact absurd rfl hne'
      · -- there is none
        have holds : ∀ k u, xs[k]? = some u → w.cell? ((⟨γ 0, 0, none⟩ : Addr).add k) = some u := fun k u hk => by
          rw [Addr.add_mid, Nat.zero_add]
          refine (cell_of_holds hA ⟨γ 0, k, none⟩ rfl rfl).trans ?_
          show (xs ++ zs z room)[k]? = some u
          rw [List.getElem?_append_left (lt_of_get hk)]
          exact hk
        have hrun := run_append_grow (P := P) w t ty e i z0 he.t hq hzq ⟨γ 0, 0, none⟩ n (n + room) xs (by rw [hs]; exact hx) holds ⟨γ 1, 0, none⟩ m m news hl hnews (by omega) (by omega) (by rw [hby]; exact growslice_fits (by omega) hb)
        have hge := grownCap_ge w (n + m) (n + room) e
        refine ⟨_, _, run_val hrun, fun q => if q = 0 then w.heap.size else if q = 1 then grownCap w (n + m) (n + room) e - (n + m) else 0, fun q hq => ?_, ?_, ?_⟩
        · dsimp only; rw [if_neg (by omega), if_neg (by omega)]
        · show Value.slice _ _ _ = Value.slice _ _ _
          congr 1
          dsimp only
          rw [if_neg (by decide), if_pos rfl]
          omega
        · refine ⟨rfl, rfl, rfl, by simp, fun b hb' hf => ?_, fun p hp => ?_, fun _ h => (by cases h), fun p hp q hq' hne' => ?_, fun _ _ _ h => (by cases h), List.Pairwise.nil⟩
          · exact heap_alloc_old w.drew _ hb'
          · simp only [List.mem_cons, List.not_mem_nil, or_false] at hp
            subst hp
            refine ⟨?_, _, List.mem_cons_self, rfl, .inr (Nat.le_refl _)⟩
            refine (heap_alloc_new w.drew _).trans ?_
            show some (Obj.cells _ _ _) = some (Obj.cells _ _ _)
            congr 2
            apply Array.ext'
            simp [zs, hz]
          · simp only [List.mem_cons, List.not_mem_nil, or_false] at hp hq'
            subst hp hq'
            exact absurd rfl hne'

theorem ap0_ok {d q : Nat} {t ty e ex : TypeId} {size bytes : Nat} {z : Array Value} (he : Elt P t e size bytes z) {jx m : Nat} {news : List Value} (hm : 0 < m)
    (hn : news.length = m * size) (hsm : m ≤ 1048576) (hb : m * bytes ≤ 140737488355328) : (ap0 d q t ty e ex z jx m news).Ok P w0 := by
  intro γ w _ hneed _
  have hB := hneed _ (List.mem_cons_self)
  dsimp only at hB
  cases hq : P.info? e with
  | none => have := he.i; simp [hq] at this
  | some i =>
    have hi := he.i
    rw [hq] at hi
    simp only [Option.map_some, Option.some.injEq, Prod.mk.injEq] at hi
    obtain ⟨hz, hs, hby⟩ := hi
    cases hzq : i.zero with
    | none => rw [hzq] at hz; cases hz
    | some z0 =>
      rw [hzq] at hz
      simp only [Option.map_some, Option.some.injEq] at hz
      have hl : news.length = m * i.size := by rw [hs]; exact hn
      have hnews : ∀ k u, news[k]? = some u → w.cell? ((⟨γ q, 0, none⟩ : Addr).add k) = some u := fun k u hk => by
        rw [Addr.add_mid, Nat.zero_add]
        exact (cell_of_holds hB ⟨γ q, k, none⟩ rfl rfl).trans hk
      refine .inl ?_
      have hrun := run_append_nil (P := P) w t ty e i z0 he.t hq hzq ⟨γ q, 0, none⟩ m m news hl hnews hm (by omega) (by rw [hby]; omega)
      have hge := grownCap_ge w m 0 e
      refine ⟨_, _, run_val hrun, fun q => if q = 0 then w.heap.size else if q = 1 then grownCap w m 0 e - m else 0, fun q hq => ?_, ?_, ?_⟩
      · dsimp only; rw [if_neg (by omega), if_neg (by omega)]
      · show Value.slice _ _ _ = Value.slice _ _ _
        congr 1
        dsimp only
        rw [if_neg (by decide), if_pos rfl]
        omega
      · refine ⟨rfl, rfl, rfl, by simp, fun b hb' hf => ?_, fun p hp => ?_, fun _ h => (by cases h), fun p hp q hq' hne' => ?_, fun _ _ _ h => (by cases h), List.Pairwise.nil⟩
        · exact heap_alloc_old w.drew _ hb'
        · simp only [List.mem_cons, List.not_mem_nil, or_false] at hp
          subst hp
          refine ⟨?_, _, List.mem_cons_self, rfl, .inr (Nat.le_refl _)⟩
          refine (heap_alloc_new w.drew _).trans ?_
          show some (Obj.cells _ _ _) = some (Obj.cells _ _ _)
          congr 2
          apply Array.ext'
          simp [zs, hz]
        · simp only [List.mem_cons, List.not_mem_nil, or_false] at hp hq'
          subst hp hq'
          exact absurd rfl hne'
end
end Go.Ex
