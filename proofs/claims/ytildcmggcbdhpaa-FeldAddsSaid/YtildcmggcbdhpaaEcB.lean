/- Plain: the numbers mod P as a field, and what the programs' numbers stand for. No program in sight. What the programs' points stand for, and that their sums are sums. No conditions but that numbers are below the modulus. -/
import Derived.Test.YtildcmggcbdhpaaEcA
import Derived.Test.YtildcmggcbdhpaaPrimes
import Derived.Test.YtildcmggcbdhpaaRef
namespace Go.Proofs.Ytildcmggcbdhpaa
open Go.Ex Go.RowKit Lim

instance : NeZero P := ⟨by decide⟩
abbrev K : Type := Fin P
def toK (a : Nat) : K := Fin.ofNat P a
theorem toK_val (a : Nat) : (toK a).val = a % P := rfl
theorem toK_of (a : K) : toK a.val = a := Fin.ext (by rw [toK_val, Nat.mod_eq_of_lt a.isLt])
theorem toK_inj {a b : Nat} (ha : a < P) (hb : b < P) (h : toK a = toK b) : a = b := by
  have := congrArg Fin.val h
  rwa [toK_val, toK_val, Nat.mod_eq_of_lt ha, Nat.mod_eq_of_lt hb] at this
theorem toK_mod (a : Nat) : toK (a % P) = toK a := Fin.ext (by rw [toK_val, toK_val, Nat.mod_mod])
theorem toK_mul (a b : Nat) : toK (a * b) = toK a * toK b := Fin.ext (by rw [toK_val, Fin.val_mul, toK_val, toK_val, ← Nat.mul_mod])
theorem toK_add (a b : Nat) : toK (a + b) = toK a + toK b := Fin.ext (by rw [toK_val, Fin.val_add, toK_val, toK_val, ← Nat.add_mod])
theorem toK_P : toK P = 0 := Fin.ext (by rw [toK_val, Nat.mod_self]; rfl)
theorem toK_zero : toK 0 = 0 := rfl
theorem toK_one : toK 1 = 1 := rfl
theorem toK_fmul (a b : Nat) : toK (fmul a b) = toK a * toK b := by unfold fmul; rw [toK_mod, toK_mul]
theorem toK_fadd (a b : Nat) : toK (fadd a b) = toK a + toK b := by unfold fadd; rw [toK_mod, toK_add]
theorem toK_fsub {a b : Nat} (hb : b < P) : toK (fsub a b) = toK a - toK b := by
  unfold fsub
  rw [toK_mod]
  have h : toK (a + P - b) + toK b = toK a := by
    rw [← toK_add, show a + P - b + b = a + P by omega, toK_add, toK_P]
    grind
  grind
theorem toK_eq_zero {a : Nat} (ha : a < P) : toK a = 0 ↔ a = 0 := ⟨fun h => toK_inj ha P_pos h, fun h => by rw [h]; rfl⟩
/-- an inverse -/
def inK (a : K) : K := toK (inv a.val)
theorem inv_inK {a : Nat} (ha : a < P) : toK (inv a) = inK (toK a) := by unfold inK; rw [toK_val, Nat.mod_eq_of_lt ha]
theorem isInv : Ec.Inv inK := by
  refine ⟨fun a ha => ?_, by decide⟩
  have hd : ¬ P ∣ a.val := fun h => ha (Fin.ext (Nat.eq_zero_of_dvd_of_lt h a.isLt))
  have h1 : a.val ^ (P - 1) % P = 1 := Ec.fermat (p := P) Ec.pr_P hd
  apply Fin.ext
  rw [Fin.val_mul, show (inK a).val = inv a.val % P from rfl]
  unfold inv
  rw [Nat.mod_mod, Nat.mul_mod_mod, ← Nat.pow_succ', show (P - 2).succ = P - 1 by decide, h1]
  rfl

/-- what a number in Montgomery's way stands for -/
def un (a : Nat) : K := toK (redc P a)
def rho : K := toK (((P + 1) / 2) ^ 256 % P)
theorem un_eq (a : Nat) : un a = toK a * rho := by
  unfold un redc rho
  rw [toK_mod, toK_mul, toK_mod]
theorem un_mm (a b : Nat) : un (mm a b) = un a * un b := by
  have : toK (mm a b) = toK a * toK b * rho := by
    have := un_eq (a * b)
    rw [toK_mul] at this
    exact this
  rw [un_eq, un_eq, un_eq, this]
  grind
theorem un_fadd (a b : Nat) : un (fadd a b) = un a + un b := by rw [un_eq, un_eq, un_eq, toK_fadd]; grind
theorem un_fsub {a b : Nat} (hb : b < P) : un (fsub a b) = un a - un b := by rw [un_eq, un_eq, un_eq, toK_fsub hb]; grind
theorem rho_R : rho * toK R = 1 := by
  have h := un_eq R
  have h2 : redc P R = 1 := by
    have := redc_R (m := P) (a := 1) (by decide) (by decide)
    rw [Nat.one_mul] at this
    exact this
  unfold un at h
  rw [h2] at h
  rw [← toK_one, h]
  grind
theorem un_R (a : Nat) : un (a * R % P) = toK a := by
  rw [un_eq, toK_mod, toK_mul]
  have := rho_R
  grind
theorem un_eq_zero {a : Nat} (ha : a < P) : un a = 0 ↔ a = 0 := by
  rw [un_eq]
  constructor
  · intro h
    rw [← toK_eq_zero ha]
    have := rho_R
    grind
  · rintro rfl; rw [toK_zero]; grind
theorem un_one : un one = 1 := by unfold one; rw [un_R]; rfl

end Go.Proofs.Ytildcmggcbdhpaa

namespace Go.Proofs.Ytildcmggcbdhpaa
open Go.Ex Go.RowKit Lim

abbrev Pnt : Type := Ec.Pt P
def pt (x y : Nat) (inf : Bool) : Pnt := if inf then none else some (toK x, toK y)
def ptV : Pnt → Value
  | none => PV 0 0 true
  | some (a, b) => PV a.val b.val false
def sum (A B : Pnt) : Pnt := Ec.add inK A B

/-- in the plane -/
def JJ (p : J) (A : Pnt) : Prop := Ec.RJ (un p.x) (un p.y) (un p.z) A
/-- with a denominator -/
def OO (p : J) (A : Pnt) : Prop := Ec.RO (toK p.x) (toK p.y) (toK p.z) A

theorem JJ_zero {p : J} {A : Pnt} (h : JJ p A) (hz : p.z = 0) : A = none := by
  cases A with
  | none => rfl
  | some q => exact absurd (by rw [hz]; exact (un_eq_zero P_pos).2 rfl) h.1
theorem OO_zero {p : J} {A : Pnt} (h : OO p A) (hz : p.z = 0) : A = none := by
  cases A with
  | none => rfl
  | some q => exact absurd (by rw [hz]; rfl) h.1
theorem JJ_nz {p : J} {A : Pnt} (h : JJ p A) (hp : p.lt) (hz : p.z ≠ 0) : ∃ a b, A = some (a, b) := by
  cases A with
  | none => exact absurd ((un_eq_zero hp.2.2).1 h) hz
  | some q => exact ⟨q.1, q.2, rfl⟩

theorem add_none (A : Pnt) : sum A none = A := by cases A <;> rfl
theorem none_add (A : Pnt) : sum none A = A := rfl

theorem JJ_inf : JJ ⟨0, 0, 0⟩ none := (un_eq_zero P_pos).2 rfl
theorem OO_inf : OO ⟨0, 1, 0⟩ none := toK_zero

theorem JJ_dbl {p : J} {A : Pnt} (h : JJ p A) (hp : p.lt) : JJ (dbl p) (Ec.dbl inK A) := by
  obtain ⟨hx, hy, hz⟩ := hp
  obtain ⟨h1, h2, h3⟩ := Ec.RJ_dbl isInv h
  unfold dbl
  by_cases h0 : p.z = 0
  · rw [if_pos h0, h1 ((un_eq_zero hz).2 h0)]
    exact JJ_inf
  · have h0' : un p.z ≠ 0 := fun e => h0 ((un_eq_zero hz).1 e)
    by_cases hy0 : p.y = 0
    · rw [if_neg h0, if_pos hy0, h2 h0' ((un_eq_zero hy).2 hy0)]
      exact JJ_inf
    · rw [if_neg h0, if_neg hy0]
      refine h3 h0' (fun e => hy0 ((un_eq_zero hy).1 e)) (un (dS p.x p.y)) (un (dM p.x)) _ _ _ ?_ ?_ ?_ ?_ ?_
      · unfold dS; simp only [un_fadd, un_mm]; grind
      · unfold dM; simp only [un_fadd, un_mm]; grind
      · show un (dX p.x p.y) = _
        unfold dX; rw [un_fsub (fadd_lt _ _), un_mm, un_fadd]
      · show un (dY p.x p.y) = _
        have e : un (dQ p.y) = 4 * ((un p.y * un p.y) * (un p.y * un p.y)) := by unfold dQ; simp only [un_fadd, un_mm]; grind
        have eX : un (dX p.x p.y) = un (dM p.x) * un (dM p.x) - (un (dS p.x p.y) + un (dS p.x p.y)) := by unfold dX; rw [un_fsub (fadd_lt _ _), un_mm, un_fadd]
        unfold dY
        rw [un_fsub (fadd_lt _ _), un_mm, un_fsub (show dX p.x p.y < P from fsub_lt _ _), un_fadd, e]
        dsimp only
        generalize un (dX p.x p.y) = X
        grind
      · show un (dZ p.y p.z) = _
        unfold dZ; rw [un_fadd, un_mm]

theorem JJ_plus {p q : J} {A B : Pnt} (hA : JJ p A) (hB : JJ q B) (hp : p.lt) (hq : q.lt) : JJ (plus p q) (sum A B) := by
  unfold plus
  by_cases h0 : p.z = 0
  · rw [if_pos h0, JJ_zero hA h0]
    exact hB
  · by_cases h1 : q.z = 0
    · rw [if_neg h0, if_pos h1, JJ_zero hB h1, add_none]
      exact hA
    · rw [if_neg h0, if_neg h1]
      have z1 : un p.z ≠ 0 := fun e => h0 ((un_eq_zero hp.2.2).1 e)
      have z2 : un q.z ≠ 0 := fun e => h1 ((un_eq_zero hq.2.2).1 e)
      have eH : un (pH p q) = un q.x * (un p.z * un p.z) - un p.x * (un q.z * un q.z) := by unfold pH; rw [un_fsub (mm_lt _ _)]; simp only [un_mm]
      have eR : un (pR p q) = un q.y * (un p.z * un p.z * un p.z) - un p.y * (un q.z * un q.z * un q.z) := by unfold pR; rw [un_fsub (mm_lt _ _)]; simp only [un_mm]
      obtain ⟨r1, r2, r3⟩ := Ec.RJ_add isInv hA hB z1 z2 eH eR
      have hH0 : pH p q = 0 ↔ un (pH p q) = 0 := (un_eq_zero (fsub_lt _ _)).symm
      have hR0 : pR p q = 0 ↔ un (pR p q) = 0 := (un_eq_zero (fsub_lt _ _)).symm
      by_cases h2 : pH p q = 0
      · rw [if_pos h2]
        by_cases h3 : pR p q = 0
        · rw [if_pos h3]
          unfold sum
          rw [r1 (hH0.1 h2) (hR0.1 h3)]
          exact JJ_dbl hA hp
        · rw [if_neg h3]
          unfold sum
          rw [r2 (hH0.1 h2) (fun e => h3 (hR0.2 e))]
          exact JJ_inf
      · rw [if_neg h2]
        have eV : un (pV p q) = un p.x * (un q.z * un q.z) * (un (pH p q) * un (pH p q)) := by unfold pV; simp only [un_mm]
        have eX : un (pX p q) = un (pR p q) * un (pR p q) - un (pH p q) * un (pH p q) * un (pH p q) - (un (pV p q) + un (pV p q)) := by
          unfold pX; rw [un_fsub (fadd_lt _ _), un_fsub (mm_lt _ _), un_fadd]; simp only [un_mm]
        refine r3 (fun e => h2 (hH0.2 e)) (un (pV p q)) _ _ _ eV eX ?_ ?_
        · show un (pY p q) = _
          unfold pY; rw [un_fsub (mm_lt _ _), un_mm, un_fsub (show pX p q < P from fsub_lt _ _)]; simp only [un_mm]
        · show un (pZ p q) = _
          unfold pZ; simp only [un_mm]

theorem OO_twi {p : J} {A : Pnt} (h : OO p A) (hp : p.lt) : OO (twi p) (Ec.dbl inK A) := by
  obtain ⟨hx, hy, hz⟩ := hp
  obtain ⟨h1, h2, h3⟩ := Ec.RO_dbl isInv h
  unfold twi
  by_cases h0 : p.z = 0
  · rw [if_pos h0, h1 ((toK_eq_zero hz).2 h0)]
    exact OO_inf
  · have h0' : toK p.z ≠ 0 := fun e => h0 ((toK_eq_zero hz).1 e)
    by_cases hy0 : p.y = 0
    · rw [if_neg h0, if_pos hy0, h2 h0' ((toK_eq_zero hy).2 hy0)]
      exact OO_inf
    · rw [if_neg h0, if_neg hy0]
      have e4 : ∀ b, toK (t4 b) = 4 * toK b := fun b => by unfold t4; simp only [toK_fadd]; grind
      have eS : toK (tS p) = toK p.y * toK p.z := by unfold tS; rw [toK_fmul]
      have eB : toK (t4 (tB p)) = 4 * (toK p.x * toK p.y * toK (tS p)) := by rw [e4]; unfold tB; simp only [toK_fmul]
      have eH : toK (tH p) = toK (tW p.x) * toK (tW p.x) - (toK (t4 (tB p)) + toK (t4 (tB p))) := by unfold tH; rw [toK_fsub (fadd_lt _ _), toK_fmul, toK_fadd]
      refine h3 h0' (fun e => hy0 ((toK_eq_zero hy).1 e)) (toK (tW p.x)) (toK (tS p)) (toK (t4 (tB p))) (toK (tH p)) _ _ _ ?_ eS eB eH ?_ ?_ ?_
      · unfold tW; simp only [toK_fadd, toK_fmul]; grind
      · show toK (fadd _ _) = _
        rw [toK_fadd, toK_fmul]
      · show toK (fsub _ _) = _
        have eY : toK (t4 (tY p)) = 4 * ((toK p.y * toK (tS p)) * (toK p.y * toK (tS p))) := by rw [e4]; unfold tY; simp only [toK_fmul]
        rw [toK_fsub (fadd_lt _ _), toK_fmul, toK_fsub (show tH p < P from fsub_lt _ _), toK_fadd, eY]
        grind
      · show toK (fadd _ _) = _
        have eZ : toK (tZ p) = 4 * (toK (tS p) * toK (tS p) * toK (tS p)) := by unfold tZ; rw [e4]; simp only [toK_fmul]
        rw [toK_fadd, eZ]
        grind

theorem OO_opl {p q : J} {A B : Pnt} (hA : OO p A) (hB : OO q B) (hp : p.lt) (hq : q.lt) : OO (opl p q) (sum A B) := by
  unfold opl
  by_cases h0 : p.z = 0
  · rw [if_pos h0, OO_zero hA h0]
    exact hB
  · by_cases h1 : q.z = 0
    · rw [if_neg h0, if_pos h1, OO_zero hB h1, add_none]
      exact hA
    · rw [if_neg h0, if_neg h1]
      have z1 : toK p.z ≠ 0 := fun e => h0 ((toK_eq_zero hp.2.2).1 e)
      have z2 : toK q.z ≠ 0 := fun e => h1 ((toK_eq_zero hq.2.2).1 e)
      have eU : toK (oU p q) = toK q.y * toK p.z - toK p.y * toK q.z := by unfold oU; rw [toK_fsub (fmul_lt _ _)]; simp only [toK_fmul]
      have eV : toK (oV p q) = toK q.x * toK p.z - toK p.x * toK q.z := by unfold oV; rw [toK_fsub (fmul_lt _ _)]; simp only [toK_fmul]
      obtain ⟨r1, r2, r3⟩ := Ec.RO_add isInv hA hB z1 z2 eU eV
      have hV0 : oV p q = 0 ↔ toK (oV p q) = 0 := (toK_eq_zero (fsub_lt _ _)).symm
      have hU0 : oU p q = 0 ↔ toK (oU p q) = 0 := (toK_eq_zero (fsub_lt _ _)).symm
      by_cases h2 : oV p q = 0
      · rw [if_pos h2]
        by_cases h3 : oU p q = 0
        · rw [if_pos h3]
          unfold sum
          rw [r1 (hV0.1 h2) (hU0.1 h3)]
          exact OO_twi hA hp
        · rw [if_neg h3]
          unfold sum
          rw [r2 (hV0.1 h2) (fun e => h3 (hU0.2 e))]
          exact OO_inf
      · rw [if_neg h2]
        have eW : toK (oW p q) = toK (oV p q) * toK (oV p q) * (toK p.x * toK q.z) := by unfold oW o2; simp only [toK_fmul]
        have e3 : toK (o3 p q) = toK (oV p q) * toK (oV p q) * toK (oV p q) := by unfold o3 o2; simp only [toK_fmul]
        have eT : toK (oT p q) = toK (oU p q) * toK (oU p q) * (toK p.z * toK q.z) - toK (oV p q) * toK (oV p q) * toK (oV p q) - (toK (oW p q) + toK (oW p q)) := by
          unfold oT oZ; rw [toK_fsub (fadd_lt _ _), toK_fsub (show o3 p q < P from fmul_lt _ _), toK_fadd, e3]; simp only [toK_fmul]
        refine r3 (fun e => h2 (hV0.2 e)) (toK (oW p q)) (toK (oT p q)) _ _ _ eW eT ?_ ?_ ?_
        · show toK (fmul _ _) = _
          rw [toK_fmul]
        · show toK (fsub _ _) = _
          rw [toK_fsub (fmul_lt _ _), toK_fmul, toK_fsub (show oT p q < P from fsub_lt _ _), toK_fmul, toK_fmul, e3]
        · show toK (fmul _ _) = _
          unfold oZ
          rw [toK_fmul, toK_fmul, e3]

end Go.Proofs.Ytildcmggcbdhpaa
