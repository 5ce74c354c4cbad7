/- The law CurveGroup as a function. No conditions but that numbers are below R. -/
import Derived.Test.YtildcmggcbdhpaaCurveD
import Derived.Test.YtildcmggcbdhpaaEcO
namespace Go.Proofs.Ytildcmggcbdhpaa
open Go.Ex Go.RowKit Lim

theorem toK_cub (x : Nat) : toK (cub x) = toK x * toK x * toK x + 7 := by unfold cub; rw [toK_fadd, toK_fmul, toK_fmul]; rfl
theorem pt_on {x y : Nat} {inf : Bool} (h : isPt x y inf = true) : Ec.On (pt x y inf) := by
  cases inf
  · simp [isPt] at h
    have e := congrArg toK h.2.2
    rw [toK_fmul, toK_cub] at e
    exact e
  · trivial
theorem pt_of (A : Pnt) : pt (ptX A) (ptY A) (ptI A) = A := by
  cases A with
  | none => rfl
  | some q => obtain ⟨a, b⟩ := q; show some (toK a.val, toK b.val) = _; rw [toK_of, toK_of]
theorem on_valid {A : Pnt} (h : Ec.On A) : isPt (ptX A) (ptY A) (ptI A) = true := by
  cases A with
  | none => rfl
  | some q =>
    obtain ⟨a, b⟩ := q
    have e : fmul b.val b.val = cub a.val := by
      apply toK_inj (fmul_lt _ _) (fadd_lt _ _)
      rw [toK_fmul, show toK (fadd (fmul (fmul a.val a.val) a.val) 7) = toK (cub a.val) from rfl, toK_cub, toK_of, toK_of]
      exact h
    simp [isPt, ptX, ptY, ptI, e]
theorem PV_pt {x y : Nat} {inf : Bool} (h : isPt x y inf = true) : PV x y inf = PVt (pt x y inf) := by
  obtain ⟨e1, e2, e3⟩ := pt_back h
  unfold PVt
  rw [e1, e2, e3]
/-- curve.Add, of points -/
theorem f17_S {A B : Pnt} (hA : Ec.On A) (hB : Ec.On B) : Pure 17 [PVt A, PVt B] (.tuple #[PVt (sum A B), I 0]) := by
  have := f17_yes (on_valid hA) (on_valid hB)
  rw [pt_of, pt_of] at this
  exact this
def eqT (d : Nat) (A : Pnt) : Rec := eqP d (ptX A) (ptY A) (ptI A) (ptX A) (ptY A) (ptI A) true
theorem eqT_ok {w : World} {d : Nat} {A : Pnt} : (eqT d A).Ok Try.prog w := eqP_ok (ltR (ptX_lt A)) (ltR (ptY_lt A)) (ltR (ptX_lt A)) (ltR (ptY_lt A)) (by simp)

theorem law4_on {A B C : Pnt} (hA : Ec.On A) (hB : Ec.On B) (hC : Ec.On C) : Pure 4 [PVt A, PVt B, PVt C] (.bool true) := by
  have hAB := sum_on hA hB
  have hBC := sum_on hB hC
  have h1 := f17_S hA hB
  have h2 := f17_S hB hA
  rw [← sum_comm A B] at h2
  have h3 := f17_S hB hC
  have h4 := f17_S hAB hC
  have h5 := f17_S hA hBC
  rw [← sum_assoc hA hB hC] at h5
  have h6 := f17_S hA (show Ec.On (none : Pnt) from trivial)
  rw [add_none] at h6
  have hL := sum_on hAB hC
  have h7 := f20_is (ltR (ptX_lt _)) (ltR (ptY_lt _)) (on_valid hL)
  generalize sum (sum A B) C = L at *
  generalize sum A B = S at *
  generalize sum B C = T at *
  exact pure_of Try.func4 rfl 16 [PVt A, PVt B, PVt C] [pc 17 [PVt A, PVt B] (.tuple #[PVt S, I 0]), pc 17 [PVt B, PVt A] (.tuple #[PVt S, I 0]), pc 17 [PVt B, PVt C] (.tuple #[PVt T, I 0]), pc 17 [PVt S, PVt C] (.tuple #[PVt L, I 0]),
      pc 17 [PVt A, PVt T] (.tuple #[PVt L, I 0]), pc 17 [PVt A, PV 0 0 true] (.tuple #[PVt A, I 0]), eqT 75 S, eqT 80 L, eqT 85 A, pc 20 [PVt L] (.bool true), pc 23 [] (.bool true)] _
    (fun _ => ⟨pc_ok h1, pc_ok h2, pc_ok h3, pc_ok h4, pc_ok h5, pc_ok h6, eqT_ok, eqT_ok, eqT_ok, pc_ok h7, pc_ok f23_ok, trivial⟩) (fun γ => by kernel_rfl)

theorem law4_ok {x y x' y' x'' y'' : Nat} {i i' i'' : Bool} (hx : x < R) (hy : y < R) (hx' : x' < R) (hy' : y' < R) (hx'' : x'' < R) (hy'' : y'' < R) : Pure 4 [PV x y i, PV x' y' i', PV x'' y'' i''] (.bool true) := by
  by_cases hab : isPt x y i = true ∧ isPt x' y' i' = true
  · obtain ⟨ha, hb⟩ := hab
    have h1 := f17_yes ha hb
    have h2 := f17_yes hb ha
    rw [sum_comm] at h2
    by_cases hc : isPt x'' y'' i'' = true
    · rw [PV_pt ha, PV_pt hb, PV_pt hc]
      exact law4_on (pt_on ha) (pt_on hb) (pt_on hc)
    · have h3 := f17_no (inf := i') (inf' := i'') hx' hy' hx'' hy'' (fun h => hc h.2)
      generalize sum (pt x y i) (pt x' y' i') = S at *
      exact pure_of Try.func4 rfl 16 [PV x y i, PV x' y' i', PV x'' y'' i''] [pc 17 [PV x y i, PV x' y' i'] (.tuple #[PVt S, I 0]), pc 17 [PV x' y' i', PV x y i] (.tuple #[PVt S, I 0]), pc 17 [PV x' y' i', PV x'' y'' i''] (.tuple #[PV 0 0 false, I 30]), pc 23 [] (.bool true)] _
        (fun _ => ⟨pc_ok h1, pc_ok h2, pc_ok h3, pc_ok f23_ok, trivial⟩) (fun γ => by kernel_rfl)
  · have h1 := f17_no (inf := i) (inf' := i') hx hy hx' hy' hab
    have h2 := f17_no (inf := i') (inf' := i) hx' hy' hx hy (fun h => hab ⟨h.2, h.1⟩)
    by_cases hbc : isPt x' y' i' = true ∧ isPt x'' y'' i'' = true
    · have h3 := f17_yes hbc.1 hbc.2
      generalize sum (pt x' y' i') (pt x'' y'' i'') = S at *
      exact pure_of Try.func4 rfl 16 [PV x y i, PV x' y' i', PV x'' y'' i''] [pc 17 [PV x y i, PV x' y' i'] (.tuple #[PV 0 0 false, I 30]), pc 17 [PV x' y' i', PV x y i] (.tuple #[PV 0 0 false, I 30]), pc 17 [PV x' y' i', PV x'' y'' i''] (.tuple #[PVt S, I 0]), pc 23 [] (.bool true)] _
        (fun _ => ⟨pc_ok h1, pc_ok h2, pc_ok h3, pc_ok f23_ok, trivial⟩) (fun γ => by kernel_rfl)
    · have h3 := f17_no (inf := i') (inf' := i'') hx' hy' hx'' hy'' hbc
      exact pure_of Try.func4 rfl 16 [PV x y i, PV x' y' i', PV x'' y'' i''] [pc 17 [PV x y i, PV x' y' i'] (.tuple #[PV 0 0 false, I 30]), pc 17 [PV x' y' i', PV x y i] (.tuple #[PV 0 0 false, I 30]), pc 17 [PV x' y' i', PV x'' y'' i''] (.tuple #[PV 0 0 false, I 30]), pc 23 [] (.bool true)] _
        (fun _ => ⟨pc_ok h1, pc_ok h2, pc_ok h3, pc_ok f23_ok, trivial⟩) (fun γ => by kernel_rfl)

end Go.Proofs.Ytildcmggcbdhpaa
