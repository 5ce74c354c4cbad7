/- The law CurveSums as a function. No conditions but that numbers are below R. -/
import Derived.Test.YtildcmggcbdhpaaCurveE
namespace Go.Proofs.Ytildcmggcbdhpaa
open Go.Ex Go.RowKit Lim

theorem f3_ok {x y x' y' : Nat} {inf inf' : Bool} (hx : x < R) (hy : y < R) (hx' : x' < R) (hy' : y' < R) : Pure 3 [PV x y inf, PV x' y' inf'] (.bool true) := by
  have hz : (0 : Nat) < R := by decide
  by_cases ha : isPt x y inf = true
  · obtain ⟨hxP, hyP⟩ := valid_lt ha
    by_cases hb : isPt x' y' inf' = true
    · have h17 := f17_yes ha hb
      have h18 := f18_yes ha hb
      generalize sum (pt x y inf) (pt x' y' inf') = S at *
      exact pure_of Try.func3 rfl 16 [PV x y inf, PV x' y' inf'] [pc 17 [PV x y inf, PV x' y' inf'] (.tuple #[PVt S, I 0]), pc 18 [PV x y inf, PV x' y' inf'] (.tuple #[PVt S, I 0]), pc 19 [PV x y inf] (.tuple #[PV x (fsub 0 y) inf, I 0]), pc 20 [PV x y inf] (.bool true),
          neP 33 (ptX S) (ptY S) (ptI S) (ptX S) (ptY S) (ptI S) false, pc 21 [PV x y inf] (I 0), pc 22 [PV x y inf] (PV x (fsub 0 y) inf), eqP 57 x (fsub 0 y) inf x (fsub 0 y) inf true, pc 23 [] (.bool true)] _
        (fun _ => ⟨pc_ok h17, pc_ok h18, pc_ok (f19_yes ha), pc_ok (f20_is hx hy ha), neP_ok (ltR (ptX_lt S)) (ltR (ptY_lt S)) (ltR (ptX_lt S)) (ltR (ptY_lt S)) (by simp), pc_ok (f21_yes ha), pc_ok (f22_ok hyP inf),
          eqP_ok hx (sR' _ _) hx (sR' _ _) (by simp), pc_ok f23_ok, trivial⟩) (fun γ => by kernel_rfl)
    · have h17 := f17_no (inf := inf) (inf' := inf') hx hy hx' hy' (fun h => hb h.2)
      have h18 := f18_no (inf := inf) (inf' := inf') hx hy hx' hy' (fun h => hb h.2)
      exact pure_of Try.func3 rfl 16 [PV x y inf, PV x' y' inf'] [pc 17 [PV x y inf, PV x' y' inf'] (.tuple #[PV 0 0 false, I 30]), pc 18 [PV x y inf, PV x' y' inf'] (.tuple #[PV 0 0 false, I 30]), pc 19 [PV x y inf] (.tuple #[PV x (fsub 0 y) inf, I 0]), pc 20 [PV x y inf] (.bool true),
          neP 33 0 0 false 0 0 false false, pc 21 [PV x y inf] (I 0), pc 22 [PV x y inf] (PV x (fsub 0 y) inf), eqP 57 x (fsub 0 y) inf x (fsub 0 y) inf true, pc 23 [] (.bool true)] _
        (fun _ => ⟨pc_ok h17, pc_ok h18, pc_ok (f19_yes ha), pc_ok (f20_is hx hy ha), neP_ok hz hz hz hz rfl, pc_ok (f21_yes ha), pc_ok (f22_ok hyP inf),
          eqP_ok hx (sR' _ _) hx (sR' _ _) (by simp), pc_ok f23_ok, trivial⟩) (fun γ => by kernel_rfl)
  · have ha' : isPt x y inf = false := by simpa using ha
    have h17 := f17_no (inf := inf) (inf' := inf') hx hy hx' hy' (fun h => ha h.1)
    have h18 := f18_no (inf := inf) (inf' := inf') hx hy hx' hy' (fun h => ha h.1)
    exact pure_of Try.func3 rfl 16 [PV x y inf, PV x' y' inf'] [pc 17 [PV x y inf, PV x' y' inf'] (.tuple #[PV 0 0 false, I 30]), pc 18 [PV x y inf, PV x' y' inf'] (.tuple #[PV 0 0 false, I 30]), pc 19 [PV x y inf] (.tuple #[PV 0 0 false, I 30]), pc 20 [PV x y inf] (.bool false),
        neP 33 0 0 false 0 0 false false, pc 21 [PV x y inf] (I 30), eqP 65 0 0 false 0 0 false true, pc 23 [] (.bool true)] _
      (fun _ => ⟨pc_ok h17, pc_ok h18, pc_ok (f19_no hx hy ha'), pc_ok (f20_is hx hy ha'), neP_ok hz hz hz hz rfl, pc_ok (f21_no hx hy ha'), eqP_ok hz hz hz hz rfl, pc_ok f23_ok, trivial⟩) (fun γ => by kernel_rfl)

end Go.Proofs.Ytildcmggcbdhpaa
