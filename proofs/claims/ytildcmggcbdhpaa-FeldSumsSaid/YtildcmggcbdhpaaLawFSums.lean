/- The law FeldSums, of lists of lists as they come in. No conditions. -/
import Derived.Test.YtildcmggcbdhpaaFeldS2
namespace Go.Proofs.Ytildcmggcbdhpaa
open Go.Ex Go.RowKit Lim
set_option maxRecDepth 100000

theorem LstIn.mono {w w' : World} (k : Below w.heap.size w w') {v : Value} {n : Nat} {l : List W9} (h : LstIn w v n l) : LstIn w' v n l := by
  obtain ⟨g, off, cap, kc, kt, h1, h2, h3, h4⟩ := h
  exact ⟨g, off, cap, kc, kt, h1, h2, holds_of h3 (k.block _ h3.lt), h4⟩
theorem LsH.mono {w w' : World} (k : Below w.heap.size w w') {og oo : Nat} {oc : List Value} {ot : TypeId} {V : List Value} (H : LsH w og oo oc ot V) : LsH w' og oo oc ot V :=
  ⟨holds_of H.outer (k.block _ H.outer.lt), H.at_, H.sl, H.n⟩
theorem LpH.mono {w w' : World} (k : Below w.heap.size w w') {n0 : Nat} {V : List Value} {Ls : List (List W9)} (H : LpH w n0 V Ls) : LpH w' n0 V Ls :=
  ⟨fun i v hv => by obtain ⟨l, h1, h2⟩ := H.at_ i v hv; exact ⟨l, h1, h2.mono k⟩, H.len⟩

/-- a call, of which is told in what comes behind w0 -/
theorem pcC_ok {w0 : World} {f : FuncId} {args : List Value} {v : Value} (h : ∀ w : World, Below w0.heap.size w0 w → Calls Try.prog f args.toArray w fun e w' => e = .returned v ∧ Below w.heap.size w w') : (pc f args v).Ok Try.prog w0 :=
  Rec.ok_call fun _ w hb _ => h w hb.below
def naC (f : FuncId) (args : List Value) (k : Nat) (val : (Nat → Nat) → Value) (news : (Nat → Nat) → List Ent) (tag : Tag) : Rec := .call f (fun _ => args) (fun _ => []) k val news tag
theorem naC_ok {w0 : World} {f : FuncId} {args : List Value} {k : Nat} {val : (Nat → Nat) → Value} {news : (Nat → Nat) → List Ent} {tag : Tag}
    (h : ∀ w : World, Below w0.heap.size w0 w → Calls Try.prog f args.toArray w fun e w' => ∃ δ : Nat → Nat, (∀ q, k ≤ q → δ q = 0) ∧ e = .returned (val δ) ∧ Below w.heap.size w w' ∧ (∀ e ∈ news δ, e.holds w' ∧ w.heap.size ≤ e.g) ∧ (news δ).Pairwise (fun a b => a.g ≠ b.g)) :
    (naC f args k val news tag).Ok Try.prog w0 := fun _ w hb _ => h w hb.below

noncomputable def poS2 (d j k n : Nat) (l : List W9) : Rec :=
  ec (some d) [] 39 (fun σ => [SL (σ 0) 0 n n, SL (σ 1) 0 n (σ 10001)]) (fun σ => [(j, ouE (σ 0) (wcs l)), (k, rowE (σ 1) (wcs l) (σ 10001 - n))]) (.bool true)
theorem poS2_ok {w : World} {d j k : Nat} {l : List W9} (hl : ∀ p ∈ l, p.lt) (hn : l.length ≤ 64) : (poS2 d j k l.length l).Ok Try.prog w := by
  have e0 : wcs l ++ zs z9 0 = wcs l := by simp [zs, Builtin.zeroCells]
  refine ec_ok Try.func39 (by kernel_rfl) rfl (fun σ => ?_)
  refine (f39_ok (ga := σ 0) (gb := σ 1) (ca := l.length) (cb := σ 10001) (ta := 26) (tb := 26) (PsH.flat 0 hl hn) (PsH.flat (σ 10001 - l.length) hl hn)).of fun w hw e he => ?_
  simp only [List.mem_cons, List.not_mem_nil, or_false] at he
  rcases he with rfl | rfl
  · rw [e0]
    exact (hw (ouE (σ 0) (wcs l)) (by simp)).weak rfl rfl rfl rfl
  · exact (hw (rowE (σ 1) (wcs l) (σ 10001 - l.length)) (by simp)).weak rfl rfl rfl rfl

noncomputable def law14Recs (ov : Value) (n n0 : Nat) (Ls : List (List W9)) : List Rec :=
  [rn 9 (grX n 20) (.bool false), naC 48 [ov] 1 (suV n0) (suN Ls n0) (.tup [.at_ 0, .no]), naC 49 [ov] 2 (comV n0 0) (ruN Ls n0) (.tup [.at_ 1, .no]), poS2 23 0 1 n0 (ouR Ls n0), pc 40 [] (.bool true)]
theorem law14_raw (ov : Value) (n n0 : Nat) (Ls : List (List W9)) (γ : Nat → Nat) (hov : ∃ a c, ov = .slice a n c) :
    outL Try.prog Try.f14.results.toList [] (exec Try.prog (Fx Try.f14) ⟨Ex.start Try.f14.ntmps [(ov, .no)] [], (List.range 8).map γ, law14Recs ov n n0 Ls, []⟩) =
      outR Try.prog Try.f14.results.toList [] (.bool true) (exec Try.prog (Fx Try.f14) ⟨Ex.start Try.f14.ntmps [(ov, .no)] [], (List.range 8).map γ, law14Recs ov n n0 Ls, []⟩) := by
  obtain ⟨a, c, rfl⟩ := hov
  unfold law14Recs suN ruN ouR
  generalize (List.range n0).map (ouW Ls) = os
  kernel_rfl
def law14Err (ov : Value) (n e : Nat) : List Rec :=
  [rn 9 (grX n 20) (.bool false), pc 48 [ov] (.tuple #[.slice none 0 0, I (e : Nat)]), pc 49 [ov] (.tuple #[.slice none 0 0, I (e : Nat)]), pc 39 [.slice none 0 0, .slice none 0 0] (.bool true), rn 27 (eqN e e) (.bool true), pc 40 [] (.bool true)]

section
variable {og oo ocap n0 : Nat} {oc : List Value} {ot : TypeId} {V : List Value} {Ls : List (List W9)} {w0 : World}
theorem law14_good (H : LsH w0 og oo oc ot V) (HL : LpH w0 n0 V Ls) (h0 : 0 < V.length) (hd : deg n0 = true) (hp : ∀ l ∈ Ls, pts l = true) :
    Calls Try.prog 14 #[SL og oo V.length ocap] w0 fun e w' => e = .returned (.bool true) ∧ Below w0.heap.size w0 w' := by
  have hn := H.n
  have ho : (ouR Ls n0).length = n0 := by simp [ouR]
  have hpo := poS2_ok (w := w0) (d := 23) (j := 0) (k := 1) (l := ouR Ls n0) (fun p hp => by
    simp only [ouR, List.mem_map] at hp
    obtain ⟨i, _, rfl⟩ := hp
    exact ouW_lt Ls i) (by rw [ho]; have := (deg_true hd).2; omega)
  rw [ho] at hpo
  have hr : RecsOk w0 (law14Recs (SL og oo V.length ocap) V.length n0 Ls) := ⟨rn_ok (grX_false hn), naC_ok (fun w hb => f48_good (H.mono hb) (HL.mono hb) h0 hd hp), naC_ok (fun w hb => f49_good (H.mono hb) (HL.mono hb) h0 hd hp), hpo, pc_ok f40_ok, trivial⟩
  exact calls0 Try.func14 rfl follows 8 [(SL og oo V.length ocap, .no)] [] _ _ w0 (fun e he => by cases he) hr.all (fun γ => law14_raw _ V.length n0 Ls γ ⟨_, _, rfl⟩)
theorem law14_err {a : Option Addr} {n c e : Nat} (hn : n ≤ 20) (h48 : ∀ w : World, Below w0.heap.size w0 w → Calls Try.prog 48 #[.slice a n c] w fun e' w' => e' = .returned (.tuple #[.slice none 0 0, I (e : Nat)]) ∧ Below w.heap.size w w')
    (h49 : ∀ w : World, Below w0.heap.size w0 w → Calls Try.prog 49 #[.slice a n c] w fun e' w' => e' = .returned (.tuple #[.slice none 0 0, I (e : Nat)]) ∧ Below w.heap.size w w') :
    Calls Try.prog 14 #[.slice a n c] w0 fun e w' => e = .returned (.bool true) ∧ Below w0.heap.size w0 w' := by
  have hr : RecsOk w0 (law14Err (.slice a n c) n e) := ⟨rn_ok (grX_false hn), pcC_ok h48, pcC_ok h49, pc_ok f39_nil, rn_ok (eqN_true _), pc_ok f40_ok, trivial⟩
  exact calls0 Try.func14 rfl follows 8 [(.slice a n c, .no)] [] _ _ w0 (fun e he => by cases he) hr.all (fun γ => by kernel_rfl)
end
theorem law14_big {a : Option Addr} {n c : Nat} (hn : 20 < n) : Pure 14 [.slice a n c] (.bool true) :=
  pure_of Try.func14 rfl 8 [.slice a n c] [rn 9 (grX n 20) (.bool true), pc 40 [] (.bool true)] _ (fun _ => ⟨rn_ok (grX_true hn), pc_ok f40_ok, trivial⟩) (fun γ => by kernel_rfl)

/-- lists of lists, as they come in -/
def LsIn (W : World) (v : Value) : Prop := (∃ a cap, v = .slice a 0 cap) ∨ ∃ (g off cap : Nat) (kc : List Value) (kt : TypeId) (V : List Value), 0 < V.length ∧ v = SL g off V.length cap ∧ (xE g kc kt).holds W ∧ (∀ u ∈ V, PtsIn W u) ∧
      ∀ (i : Nat) (u : Value), V[i]? = some u → ∀ (j : Nat) (v : Value), [u][j]? = some v → kc[off + i * 1 + j]? = some v
theorem lpH_of {W : World} {n0 : Nat} : ∀ V : List Value, (∀ u ∈ V, PtsIn W u) → (∀ u ∈ V, lok n0 u = true) → ∃ Ls, LpH W n0 V Ls
  | [], _, _ => ⟨[], fun i v hv => by simp at hv, rfl⟩
  | u :: V, h1, h2 => by
    obtain ⟨Ls, h3⟩ := lpH_of V (fun u hu => h1 u (List.mem_cons_of_mem _ hu)) (fun u hu => h2 u (List.mem_cons_of_mem _ hu))
    have hk := h2 u (by simp)
    simp only [lok, Bool.and_eq_true, beq_iff_eq] at hk
    rcases h1 u (by simp) with ⟨a, cap, rfl⟩ | ⟨g, off, cap, kc, kt, l, hl, rfl, hh, hlt, hat⟩
    · cases hk.1
    · have hn : l.length = n0 := hk.2
      have hd := deg_true (n := l.length) hk.1
      refine ⟨l :: Ls, fun i v hv => ?_, by simp [h3.len]⟩
      cases i with
      | zero =>
        simp only [List.getElem?_cons_zero, Option.some.injEq] at hv
        subst hv
        exact ⟨l, rfl, g, off, cap, kc, kt, by rw [← hn], hn, hh, hat, hlt, by omega⟩
      | succ i =>
        simp only [List.getElem?_cons_succ] at hv ⊢
        exact h3.at_ i v hv
theorem ptsIn_sl {W : World} {u : Value} (h : PtsIn W u) : ∃ a n c, u = .slice a n c := by
  rcases h with ⟨a, cap, rfl⟩ | ⟨g, off, cap, kc, kt, l, _, rfl, _⟩
  · exact ⟨_, _, _, rfl⟩
  · exact ⟨_, _, _, rfl⟩

/-- wardmotelaw07.FeldSums -/
theorem law14_calls {W : World} {v0 : Value} (h0 : LsIn W v0) : Calls Try.prog 14 #[v0] W fun e w' => e = .returned (.bool true) ∧ Below W.heap.size W w' := by
  rcases h0 with ⟨a, cap, rfl⟩ | ⟨g, off, cap, kc, kt, V, hV, rfl, hh, hu, hat⟩
  · exact law14_err (e := 1) (by omega) (fun w _ => f48_nil w) (fun w _ => f49_nil w)
  · by_cases hn : V.length ≤ 20
    · have H : LsH W g off kc kt V := ⟨hh, fun i v hv => by
        have := hat i v hv 0 v rfl
        rwa [Nat.mul_one, Nat.add_zero] at this, fun v hv => ptsIn_sl (hu v hv), hn⟩
      obtain ⟨u0, hu0⟩ : ∃ u0, V[0]? = some u0 := ⟨_, List.getElem?_eq_getElem hV⟩
      by_cases hl : ∀ v ∈ V, lok (lenV u0) v = true
      · obtain ⟨Ls, HL⟩ := lpH_of V hu hl
        have hd : deg (lenV u0) = true := by
          have := hl u0 (List.mem_of_getElem? hu0)
          simp only [lok, Bool.and_eq_true] at this
          exact this.1
        by_cases hp : ∀ l ∈ Ls, pts l = true
        · exact law14_good H HL hV hd hp
        · exact law14_err (e := 30) hn (fun w hb => f48_bad (H.mono hb) (HL.mono hb) hV hd hp) (fun w hb => f49_bad (H.mono hb) (HL.mono hb) hV hd hp)
      · exact law14_err (e := 1) hn (fun w hb => f48_len (H.mono hb) hu0 hl) (fun w hb => f49_len (H.mono hb) hu0 hl)
    · exact law14_big (by omega) W

section
variable {H : Type} {enc : TypeId × Value → H} {W : World} {sp : Nat → Bool} {hd : Bool}
theorem trod_pts {n : Nat} {cs : List Value} {x : DataW H × List MemPlace} (h : DataW.trod enc Try.prog W 0 sp hd n 40 cs = some x) : ∃ v : Value, PtsIn W v ∧ cs = [v] := by
  have key : ∀ (a : Option Addr) (l c : Nat), cs = [.slice a l c] → ∃ v : Value, PtsIn W v ∧ cs = [v] := fun a l c e => by
    subst e
    exact ⟨_, open_pts (v := .slice a l c) (d := x.1) (ps := x.2) ⟨n, h⟩ ⟨a, l, c, rfl⟩, rfl⟩
  rcases Go.Deep.open_slice sl40 h with ⟨h1, _⟩ | ⟨a1, len1, cap1, _, _, _, _, h1, _⟩
  · exact key _ _ _ h1
  · exact key _ _ _ h1
instance : Inhabited Value := ⟨undef⟩
theorem open_lists {v : Value} {d : DataW H} {ps : List MemPlace} (h : DataW.Trod enc Try.prog W 0 sp hd 79 v d ps) (hv : ∃ a len cap, v = .slice a len cap) : LsIn W v :=
  open_row (f := fun u : Value => [u]) (ok := PtsIn W) (by kernel_rfl) Nat.zero_lt_one (fun _ => rfl) (fun _ _ _ h => trod_pts h) sl79 h hv
end

end Go.Proofs.Ytildcmggcbdhpaa
