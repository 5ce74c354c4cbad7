/- Plain: the numbers mod P as a field, and what the programs' numbers stand for. No program in sight. -/
import Derived.Test.YtildcmggcbdhpaaEcA
import Derived.Test.YtildcmggcbdhpaaPrimes
import Derived.Test.YtildcmggcbdhpaaRefG
namespace Go.Proofs.Ytildcmggcbdhpaa
open Go.Ex Go.RowKit Lim

instance : NeZero P := ⟨by decide⟩
abbrev K : Type := Fin P
def toK (a : Nat) : K := Fin.ofNat P a
theorem toK_val (a : Nat) : (toK a).val = a % P := rfl
theorem toK_of (a : K) : toK a.val = a := Fin.ext (by rw [toK_val, Nat.mod_eq_of_lt a.isLt])
theorem toK_inj {a b : Nat} (ha : a < P) (hb : b < P) (h : toK a = toK b) : a = b := by
  have := congrArg Fin.val h
  rwa [toK_val, toK_val, Nat.mod_eq_of_lt ha, Nat.mod_eq_of_lt hb] at this
theorem toK_mod (a : Nat) : toK (a % P) = toK a := Fin.ext (by rw [toK_val, toK_val, Nat.mod_mod])
theorem toK_mul (a b : Nat) : toK (a * b) = toK a * toK b := Fin.ext (by rw [toK_val, Fin.val_mul, toK_val, toK_val, ← Nat.mul_mod])
theorem toK_add (a b : Nat) : toK (a + b) = toK a + toK b := Fin.ext (by rw [toK_val, Fin.val_add, toK_val, toK_val, ← Nat.add_mod])
theorem toK_P : toK P = 0 := Fin.ext (by rw [toK_val, Nat.mod_self]; rfl)
theorem toK_zero : toK 0 = 0 := rfl
theorem toK_one : toK 1 = 1 := rfl
theorem toK_fmul (a b : Nat) : toK (fmul a b) = toK a * toK b := by unfold fmul; rw [toK_mod, toK_mul]
theorem toK_fadd (a b : Nat) : toK (fadd a b) = toK a + toK b := by unfold fadd; rw [toK_mod, toK_add]
theorem toK_fsub {a b : Nat} (hb : b < P) : toK (fsub a b) = toK a - toK b := by
  unfold fsub
  rw [toK_mod]
  have h : toK (a + P - b) + toK b = toK a := by
    rw [← toK_add, show a + P - b + b = a + P by omega, toK_add, toK_P]
    grind
  grind
theorem toK_eq_zero {a : Nat} (ha : a < P) : toK a = 0 ↔ a = 0 := ⟨fun h => toK_inj ha P_pos h, fun h => by rw [h]; rfl⟩
/-- an inverse -/
def inK (a : K) : K := toK (inv a.val)
theorem inv_inK {a : Nat} (ha : a < P) : toK (inv a) = inK (toK a) := by unfold inK; rw [toK_val, Nat.mod_eq_of_lt ha]
theorem isInv : Ec.Inv inK := by
  refine ⟨fun a ha => ?_, by decide⟩
  have hd : ¬ P ∣ a.val := fun h => ha (Fin.ext (Nat.eq_zero_of_dvd_of_lt h a.isLt))
  have h1 : a.val ^ (P - 1) % P = 1 := Ec.fermat (p := P) Ec.pr_P hd
  apply Fin.ext
  rw [Fin.val_mul, show (inK a).val = inv a.val % P from rfl]
  unfold inv
  rw [Nat.mod_mod, Nat.mul_mod_mod, ← Nat.pow_succ', show (P - 2).succ = P - 1 by decide, h1]
  rfl

/-- what a number in Montgomery's way stands for -/
def un (a : Nat) : K := toK (redc P a)
def rho : K := toK (((P + 1) / 2) ^ 256 % P)
theorem un_eq (a : Nat) : un a = toK a * rho := by
  unfold un redc rho
  rw [toK_mod, toK_mul, toK_mod]
theorem un_mm (a b : Nat) : un (mm a b) = un a * un b := by
  have : toK (mm a b) = toK a * toK b * rho := by
    have := un_eq (a * b)
    rw [toK_mul] at this
    exact this
  rw [un_eq, un_eq, un_eq, this]
  grind
theorem un_fadd (a b : Nat) : un (fadd a b) = un a + un b := by rw [un_eq, un_eq, un_eq, toK_fadd]; grind
theorem un_fsub {a b : Nat} (hb : b < P) : un (fsub a b) = un a - un b := by rw [un_eq, un_eq, un_eq, toK_fsub hb]; grind
theorem rho_R : rho * toK R = 1 := by
  have h := un_eq R
  have h2 : redc P R = 1 := by
    have := redc_R (m := P) (a := 1) (by decide) (by decide)
    rw [Nat.one_mul] at this
    exact this
  unfold un at h
  rw [h2] at h
  rw [← toK_one, h]
  grind
theorem un_R (a : Nat) : un (a * R % P) = toK a := by
  rw [un_eq, toK_mod, toK_mul]
  have := rho_R
  grind
theorem un_eq_zero {a : Nat} (ha : a < P) : un a = 0 ↔ a = 0 := by
  rw [un_eq]
  constructor
  · intro h
    rw [← toK_eq_zero ha]
    have := rho_R
    grind
  · rintro rfl; rw [toK_zero]; grind
theorem un_one : un one = 1 := by unfold one; rw [un_R]; rfl

end Go.Proofs.Ytildcmggcbdhpaa
