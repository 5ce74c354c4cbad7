/- Plain: the programs' curve: no point has y = 0; sums of its points. No program in sight. -/
import Derived.Test.YtildcmggcbdhpaaEcB
import Derived.Test.YtildcmggcbdhpaaEcK
namespace Go.Proofs.Ytildcmggcbdhpaa
set_option exponentiation.threshold 400

theorem no_cube : Ec.pwm P (P - 7) ((P - 1) / 3) ≠ 1 := by decide +kernel

theorem isCurve : Ec.Curve inK := by
  refine { isInv with nz := fun x h => ?_ }
  have hx0 : x ≠ 0 := by
    rintro rfl
    exact absurd h (by decide)
  have hd : ¬ P ∣ x.val := fun h => hx0 (Fin.ext (Nat.eq_zero_of_dvd_of_lt h x.isLt))
  have h1 : x.val ^ (P - 1) % P = 1 := Ec.fermat (p := P) Ec.pr_P hd
  have h2 : x.val ^ 3 % P = P - 7 := by
    have e := congrArg Fin.val h
    rw [Fin.val_add, Fin.val_mul, Fin.val_mul] at e
    have e7 : (7 : K).val = 7 := by decide
    have e0 : (0 : K).val = 0 := rfl
    rw [e7, e0, Nat.mod_mul_mod] at e
    have e3 : x.val ^ 3 = x.val * x.val * x.val := by rw [Nat.pow_succ, Nat.pow_succ, Nat.pow_one]
    rw [e3]
    have hlt : x.val * x.val * x.val % P < P := Nat.mod_lt _ P_pos
    have hP : 7 < P := by decide
    generalize x.val * x.val * x.val % P = v at *
    by_cases hv : v + 7 < P
    · rw [Nat.mod_eq_of_lt hv] at e; omega
    · rw [Nat.mod_eq_sub_mod (by omega), Nat.mod_eq_of_lt (by omega)] at e; omega
  have h3 : (P - 7) ^ ((P - 1) / 3) % P = 1 := by
    rw [← h2, ← Nat.pow_mod, ← Nat.pow_mul, show 3 * ((P - 1) / 3) = P - 1 by decide, h1]
  rw [← Ec.pwm_is _ _ _ (by decide)] at h3
  exact no_cube h3

theorem sum_assoc {A B C : Pnt} (hA : Ec.On A) (hB : Ec.On B) (hC : Ec.On C) : sum (sum A B) C = sum A (sum B C) := Ec.add_assoc isCurve hA hB hC
theorem sum_comm (A B : Pnt) : sum A B = sum B A := Ec.add_comm isInv A B
theorem sum_on {A B : Pnt} (hA : Ec.On A) (hB : Ec.On B) : Ec.On (sum A B) := Ec.add_on isCurve hA hB

end Go.Proofs.Ytildcmggcbdhpaa
