/- The law CurveCounts as a function. No conditions but that numbers are below R. -/
import Derived.Test.YtildcmggcbdhpaaLawTimes
namespace Go.Proofs.Ytildcmggcbdhpaa
open Go.Ex Go.RowKit Lim
set_option maxRecDepth 100000

def wE (g : Nat) (p : W9) : Ent := ⟨g, W9.l p, [], 26, true⟩
noncomputable def ctL : Code := (loopsOf (Fx Try.f9)).getD 0 .skip
def ctS (k : Nat) (a s : W9) (gl : List Nat) (i : Nat) : St :=
  ⟨frOf 56 [(1, I (k : Nat)), (2, PT (gl.getD 0 0)), (5, PT (gl.getD 1 0)), (6, I (i : Nat))], tgOf 56 [(2, .at_ 0), (5, .at_ 1)], [wE (gl.getD 0 0) a, wE (gl.getD 1 0) s]⟩
def wv (p : W9) : Value := PV p.x p.y p.inf
theorem ct_go (k i : Nat) (a s t : W9) (gl : List Nat) (γ : Nat → Nat) :
    endL (ctS k a t gl (i + 1)) (exec Try.prog ctL ⟨ctS k a s gl i, (List.range 8).map γ, [rn 26 (lsX i k) (.bool true), pc 17 [wv s, wv a] (.tuple #[wv t, I 0]), rn 28 (adX i) (I (i + 1 : Nat))], []⟩) =
      endR .normal (ctS k a t gl (i + 1)) (exec Try.prog ctL ⟨ctS k a s gl i, (List.range 8).map γ, [rn 26 (lsX i k) (.bool true), pc 17 [wv s, wv a] (.tuple #[wv t, I 0]), rn 28 (adX i) (I (i + 1 : Nat))], []⟩) := by kernel_rfl
theorem ct_stop (k i : Nat) (a s : W9) (gl : List Nat) (γ : Nat → Nat) :
    endL (ctS k a s gl i) (exec Try.prog ctL ⟨ctS k a s gl i, (List.range 8).map γ, [rn 26 (lsX i k) (.bool false)], []⟩) =
      endR (.exit 0) (ctS k a s gl i) (exec Try.prog ctL ⟨ctS k a s gl i, (List.range 8).map γ, [rn 26 (lsX i k) (.bool false)], []⟩) := by kernel_rfl

noncomputable def ctRec (k : Nat) (a s : W9) : Rec := .code ctL (fun gl => ctS k a ⟨0, 0, true⟩ gl 0) (fun gl => ctS k a s gl k) (.exit 0)
theorem f17_w {A B : Cp} : Pure 17 [wv (wOf A.1), wv (wOf B.1)] (.tuple #[wv (wOf (A + B).1), I 0]) := f17_S A.2 B.2
theorem ctRec_ok {k : Nat} (hk : k < 25) (A : Cp) {w0 : World} : (ctRec k (wOf A.1) (wOf (Cp.mul k A).1)).Ok Try.prog w0 := by
  refine Rec.ok_code follows (fun gl i => ctS k (wOf A.1) (wOf (Cp.mul i A).1) gl i) (fun i => i ≤ k) (fun i => k - i) (.exit 0) (fun gl => ctS k (wOf A.1) (wOf (Cp.mul k A).1) gl k) (fun h => by cases h) 0 (Nat.zero_le _) (fun gl i hi => ?_)
  by_cases hlt : i < k
  · refine .go (i + 1) (by omega) (by omega) 8 [rn 26 (lsX i k) (.bool true), pc 17 [wv (wOf (Cp.mul i A).1), wv (wOf A.1)] (.tuple #[wv (wOf (Cp.mul (i + 1) A).1), I 0]), rn 28 (adX i) (I (i + 1 : Nat))]
      (RecsOk.all ⟨rn_ok (lsX_true hlt), pc_ok f17_w, rn_ok (adX_eq (by omega)), trivial⟩) (fun γ => ?_)
    generalize wOf (Cp.mul (i + 1) A).1 = t
    generalize wOf (Cp.mul i A).1 = s
    generalize wOf A.1 = a
    exact ct_go k i a s t gl γ
  · have e : i = k := by omega
    subst e
    refine .stop 8 [rn 26 (lsX i i) (.bool false)] (RecsOk.all ⟨rn_ok (lsX_false (Nat.le_refl _)), trivial⟩) (fun γ => ?_)
    generalize wOf (Cp.mul i A).1 = s
    generalize wOf A.1 = a
    exact ct_stop i i a s gl γ

def NX (k : Nat) : Value := .agg #[.int .u64 (IntKind.u64.wrap (k : Int)), .int .u64 0, .int .u64 0, .int .u64 0]
theorem NX_eq {k : Nat} (h : k < B) : NX k = NV k := by
  have e : k / B = 0 := Nat.div_eq_of_lt h
  unfold NX NV l0 l1 l2 l3
  rw [wrap_in h, Nat.mod_eq_of_lt h, e]
  rfl
def negX (n : Int) : Value := .bool (decide (n < 0))
def gt24 (n : Int) : Value := .bool (decide (n > 24))
noncomputable def law9Recs (k : Nat) (a s : W9) : List Rec :=
  [pc 20 [wv a] (.bool true), rn 16 (negX (k : Nat)) (.bool false), rn 20 (gt24 (k : Nat)) (.bool false), ctRec k a s, pc 26 [NX k, wv a] (.tuple #[wv s, I 0]), eqP 51 s.x s.y s.inf s.x s.y s.inf true, pc 23 [] (.bool true)]
theorem law9_raw (k : Nat) (a s : W9) (γ : Nat → Nat) :
    outL Try.prog Try.f9.results.toList [] (exec Try.prog (Fx Try.f9) ⟨Ex.start Try.f9.ntmps [(wv a, .no), (I (k : Nat), .no)] [], (List.range 8).map γ, law9Recs k a s, []⟩) =
      outR Try.prog Try.f9.results.toList [] (.bool true) (exec Try.prog (Fx Try.f9) ⟨Ex.start Try.f9.ntmps [(wv a, .no), (I (k : Nat), .no)] [], (List.range 8).map γ, law9Recs k a s, []⟩) := by kernel_rfl

/-- wardmotelaw03.CurveCounts -/
theorem law9_ok {x y : Nat} {inf : Bool} {n : Int} (hx : x < R) (hy : y < R) : Pure 9 [PV x y inf, I n] (.bool true) := by
  by_cases hp : isPt x y inf = true
  · have h20 := f20_is hx hy hp
    by_cases h0 : n < 0
    · exact pure_of Try.func9 rfl 8 [PV x y inf, I n] [pc 20 [PV x y inf] (.bool true), rn 16 (negX n) (.bool true), pc 23 [] (.bool true)] _ (fun _ => ⟨pc_ok h20, rn_ok (by unfold negX; rw [decide_eq_true h0]), pc_ok f23_ok, trivial⟩) (fun γ => by kernel_rfl)
    · by_cases h1 : n > 24
      · exact pure_of Try.func9 rfl 8 [PV x y inf, I n] [pc 20 [PV x y inf] (.bool true), rn 16 (negX n) (.bool false), rn 20 (gt24 n) (.bool true), pc 23 [] (.bool true)] _ (fun _ => ⟨pc_ok h20, rn_ok (by unfold negX; rw [decide_eq_false h0]), rn_ok (by unfold gt24; rw [decide_eq_true h1]), pc_ok f23_ok, trivial⟩) (fun γ => by kernel_rfl)
      · obtain ⟨k, rfl⟩ : ∃ k : Nat, n = (k : Int) := ⟨n.toNat, by omega⟩
        rw [PV_pt hp]
        obtain ⟨A, hA⟩ : ∃ A : Cp, pt x y inf = A.1 := ⟨⟨pt x y inf, pt_on hp⟩, rfl⟩
        rw [hA]
        have h20' := f20_is (ltR (ptX_lt A.1)) (ltR (ptY_lt A.1)) (on_valid A.2)
        have hkQ : k < Q := Nat.lt_trans (show k < 25 by omega) (by decide)
        have h26 : Pure 26 [NX k, wv (wOf A.1)] (.tuple #[wv (wOf (Cp.mul k A).1), I 0]) := by
          rw [NX_eq (Nat.lt_trans (show k < 25 by omega) (by decide))]
          exact f26_S hkQ A
        have hct := fun w0 : World => ctRec_ok (k := k) (by omega) A (w0 := w0)
        have hs : (wOf (Cp.mul k A).1).x < R ∧ (wOf (Cp.mul k A).1).y < R := ⟨ltR (ptX_lt _), ltR (ptY_lt _)⟩
        generalize wOf (Cp.mul k A).1 = s at *
        exact pure_of Try.func9 rfl 8 [wv (wOf A.1), I (k : Nat)] (law9Recs k (wOf A.1) s) _
          (fun w => ⟨pc_ok h20', rn_ok (by unfold negX; rw [decide_eq_false h0]), rn_ok (by unfold gt24; rw [decide_eq_false h1]), hct w, pc_ok h26, eqP_ok hs.1 hs.2 hs.1 hs.2 (by simp), pc_ok f23_ok, trivial⟩) (fun γ => law9_raw k (wOf A.1) s γ)
  · exact pure_of Try.func9 rfl 8 [PV x y inf, I n] [pc 20 [PV x y inf] (.bool false), pc 23 [] (.bool true)] _ (fun _ => ⟨pc_ok (f20_is hx hy (by simpa using hp)), pc_ok f23_ok, trivial⟩) (fun γ => by kernel_rfl)

end Go.Proofs.Ytildcmggcbdhpaa
