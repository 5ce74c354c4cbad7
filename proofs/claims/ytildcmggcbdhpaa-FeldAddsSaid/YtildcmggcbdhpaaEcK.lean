/- Plain: identities of polynomials mod n, by the value of an integer polynomial at powers of two (Kronecker). No program in sight. Plain: sums are grouped as you like: the identity behind it, by the kernel's reckoning. No program in sight. Plain: the sum of points of y y = x x x + 7 is a group's, given that no point has y = 0. No program in sight. Plain: the complete sum is the sum; sums of points are grouped as you like. No program in sight. -/
import Derived.Test.YtildcmggcbdhpaaEcA
namespace Ec
set_option linter.unusedSectionVars false
variable {n : Nat} [NeZero n]

abbrev Bd : Type := Nat → Nat

/-- what a relation of values, bounds and what they stand for must bear -/
structure Good (Q : Int → Bd → Fin n → Prop) (cond : Bd → Prop) : Prop where
  zero : Q 0 (fun _ => 0) 0
  add : ∀ {v B e v' B' e'}, Q v B e → Q v' B' e' → Q (v + v') (fun j => B j + B' j) (e + e')
  mul : ∀ {v B e v' B' e'}, Q v B e → Q v' B' e' → Q (v * v') (fun j => B j * B' j) (e * e')
  neg : ∀ {v B e}, Q v B e → Q (-v) B (-e)
  mono : ∀ {v B B' e}, Q v B e → (∀ j, B j ≤ B' j) → Q v B' e
  abs : ∀ {v B e}, Q v B e → v.natAbs ≤ B 0
  nul : ∀ {B e}, Q 0 B e → cond B → e = 0
  anti : ∀ {B B'}, (∀ j, B j ≤ B' j) → cond B' → cond B

abbrev It (n : Nat) : Type := Int × Bd × Fin n
def pv (Y : Nat) : List (It n) → Int
  | [] => 0
  | t :: l => t.1 + (Y : Int) * pv Y l
def pe (y : Fin n) : List (It n) → Fin n
  | [] => 0
  | t :: l => t.2.2 + y * pe y l
def pb0 (Y : Nat) : List (It n) → Nat
  | [] => 0
  | t :: l => t.2.1 0 + Y * pb0 Y l
def pbs (j : Nat) : List (It n) → Nat
  | [] => 0
  | t :: l => t.2.1 j + pbs j l
def iadd (a b : It n) : It n := (a.1 + b.1, fun j => a.2.1 j + b.2.1 j, a.2.2 + b.2.2)
def imul (a b : It n) : It n := (a.1 * b.1, fun j => a.2.1 j * b.2.1 j, a.2.2 * b.2.2)
def izero : It n := (0, fun _ => 0, 0)
def qadd : List (It n) → List (It n) → List (It n)
  | [], l => l
  | l, [] => l
  | a :: l, b :: m => iadd a b :: qadd l m
def qsc (a : It n) : List (It n) → List (It n)
  | [] => []
  | b :: l => imul a b :: qsc a l
def qmul : List (It n) → List (It n) → List (It n)
  | [], _ => []
  | a :: l, m => qadd (qsc a m) (izero :: qmul l m)
def qneg : List (It n) → List (It n)
  | [] => []
  | a :: l => (-a.1, a.2.1, -a.2.2) :: qneg l

theorem qadd_nil (l : List (It n)) : qadd l [] = l := by cases l <;> rfl
theorem pv_add (Y : Nat) : ∀ l m : List (It n), pv Y (qadd l m) = pv Y l + pv Y m
  | [], m => by simp [qadd, pv]
  | a :: l, [] => by simp [qadd, pv]
  | a :: l, b :: m => by simp only [qadd, pv, iadd, pv_add Y l m]; grind
theorem pe_add (y : Fin n) : ∀ l m : List (It n), pe y (qadd l m) = pe y l + pe y m
  | [], m => by simp only [qadd, pe]; grind
  | a :: l, [] => by simp only [qadd, pe]; grind
  | a :: l, b :: m => by simp only [qadd, pe, iadd, pe_add y l m]; grind
theorem pb0_add (Y : Nat) : ∀ l m : List (It n), pb0 Y (qadd l m) = pb0 Y l + pb0 Y m
  | [], m => by simp [qadd, pb0]
  | a :: l, [] => by simp [qadd, pb0]
  | a :: l, b :: m => by simp only [qadd, pb0, iadd, pb0_add Y l m]; grind
theorem pbs_add (j : Nat) : ∀ l m : List (It n), pbs j (qadd l m) = pbs j l + pbs j m
  | [], m => by simp [qadd, pbs]
  | a :: l, [] => by simp [qadd, pbs]
  | a :: l, b :: m => by simp only [qadd, pbs, iadd, pbs_add j l m]; grind
theorem pv_sc (Y : Nat) (a : It n) : ∀ l : List (It n), pv Y (qsc a l) = a.1 * pv Y l
  | [] => by simp [qsc, pv]
  | b :: l => by simp only [qsc, pv, imul, pv_sc Y a l]; grind
theorem pe_sc (y : Fin n) (a : It n) : ∀ l : List (It n), pe y (qsc a l) = a.2.2 * pe y l
  | [] => by simp only [qsc, pe]; grind
  | b :: l => by simp only [qsc, pe, imul, pe_sc y a l]; grind
theorem pb0_sc (Y : Nat) (a : It n) : ∀ l : List (It n), pb0 Y (qsc a l) = a.2.1 0 * pb0 Y l
  | [] => by simp [qsc, pb0]
  | b :: l => by simp only [qsc, pb0, imul, pb0_sc Y a l]; grind
theorem pbs_sc (j : Nat) (a : It n) : ∀ l : List (It n), pbs j (qsc a l) = a.2.1 j * pbs j l
  | [] => by simp [qsc, pbs]
  | b :: l => by simp only [qsc, pbs, imul, pbs_sc j a l]; grind
theorem pv_mul (Y : Nat) : ∀ l m : List (It n), pv Y (qmul l m) = pv Y l * pv Y m
  | [], m => by simp [qmul, pv]
  | a :: l, m => by simp only [qmul, pv_add, pv_sc, pv, izero, pv_mul Y l m]; grind
theorem pe_mul (y : Fin n) : ∀ l m : List (It n), pe y (qmul l m) = pe y l * pe y m
  | [], m => by simp only [qmul, pe]; grind
  | a :: l, m => by simp only [qmul, pe_add, pe_sc, pe, izero, pe_mul y l m]; grind
theorem pb0_mul (Y : Nat) : ∀ l m : List (It n), pb0 Y (qmul l m) = pb0 Y l * pb0 Y m
  | [], m => by simp [qmul, pb0]
  | a :: l, m => by simp only [qmul, pb0_add, pb0_sc, pb0, izero, pb0_mul Y l m]; grind
theorem pbs_mul (j : Nat) : ∀ l m : List (It n), pbs j (qmul l m) = pbs j l * pbs j m
  | [], m => by simp [qmul, pbs]
  | a :: l, m => by simp only [qmul, pbs_add, pbs_sc, pbs, izero, pbs_mul j l m]; grind
theorem pv_neg (Y : Nat) : ∀ l : List (It n), pv Y (qneg l) = - pv Y l
  | [] => by simp [qneg, pv]
  | b :: l => by simp only [qneg, pv, pv_neg Y l]; grind
theorem pe_neg (y : Fin n) : ∀ l : List (It n), pe y (qneg l) = - pe y l
  | [] => by simp only [qneg, pe]; grind
  | b :: l => by simp only [qneg, pe, pe_neg y l]; grind
theorem pb0_neg (Y : Nat) : ∀ l : List (It n), pb0 Y (qneg l) = pb0 Y l
  | [] => rfl
  | b :: l => by simp only [qneg, pb0, pb0_neg Y l]
theorem pbs_neg (j : Nat) : ∀ l : List (It n), pbs j (qneg l) = pbs j l
  | [] => rfl
  | b :: l => by simp only [qneg, pbs, pbs_neg j l]

variable {Q : Int → Bd → Fin n → Prop} {cond : Bd → Prop}
theorem all_add (h : Good Q cond) : ∀ {l m : List (It n)}, (∀ t ∈ l, Q t.1 t.2.1 t.2.2) → (∀ t ∈ m, Q t.1 t.2.1 t.2.2) → ∀ t ∈ qadd l m, Q t.1 t.2.1 t.2.2
  | [], m, _, hm => hm
  | a :: l, [], hl, _ => hl
  | a :: l, b :: m, hl, hm => fun t ht => by
    rcases List.mem_cons.1 ht with rfl | ht
    · exact h.add (hl a (by simp)) (hm b (by simp))
    · exact all_add h (fun t ht => hl t (by simp [ht])) (fun t ht => hm t (by simp [ht])) t ht
theorem all_sc (h : Good Q cond) {a : It n} (ha : Q a.1 a.2.1 a.2.2) : ∀ {l : List (It n)}, (∀ t ∈ l, Q t.1 t.2.1 t.2.2) → ∀ t ∈ qsc a l, Q t.1 t.2.1 t.2.2
  | [], _ => fun t ht => by cases ht
  | b :: l, hl => fun t ht => by
    rcases List.mem_cons.1 ht with rfl | ht
    · exact h.mul ha (hl b (by simp))
    · exact all_sc h ha (fun t ht => hl t (by simp [ht])) t ht
theorem all_mul (h : Good Q cond) : ∀ {l m : List (It n)}, (∀ t ∈ l, Q t.1 t.2.1 t.2.2) → (∀ t ∈ m, Q t.1 t.2.1 t.2.2) → ∀ t ∈ qmul l m, Q t.1 t.2.1 t.2.2
  | [], m, _, _ => fun t ht => by cases ht
  | a :: l, m, hl, hm => by
    refine all_add h (all_sc h (hl a (by simp)) hm) fun t ht => ?_
    rcases List.mem_cons.1 ht with rfl | ht
    · exact h.zero
    · exact all_mul h (fun t ht => hl t (by simp [ht])) hm t ht
theorem all_neg (h : Good Q cond) : ∀ {l : List (It n)}, (∀ t ∈ l, Q t.1 t.2.1 t.2.2) → ∀ t ∈ qneg l, Q t.1 t.2.1 t.2.2
  | [], _ => fun t ht => by cases ht
  | b :: l, hl => fun t ht => by
    rcases List.mem_cons.1 ht with rfl | ht
    · exact h.neg (hl b (by simp))
    · exact all_neg h (fun t ht => hl t (by simp [ht])) t ht

/-- one letter more -/
def Up (Y : Nat) (y : Fin n) (Q : Int → Bd → Fin n → Prop) (v : Int) (B : Bd) (e : Fin n) : Prop :=
  ∃ l : List (It n), (∀ t ∈ l, Q t.1 t.2.1 t.2.2) ∧ v = pv Y l ∧ e = pe y l ∧ pb0 Y l ≤ B 0 ∧ ∀ j, pbs j l ≤ B (j + 1)
def upc (Y : Nat) (cond : Bd → Prop) (B : Bd) : Prop := B 1 < Y ∧ cond fun j => B (j + 1)

theorem pv_abs (h : Good Q cond) (Y : Nat) : ∀ {l : List (It n)}, (∀ t ∈ l, Q t.1 t.2.1 t.2.2) → (pv Y l).natAbs ≤ pb0 Y l
  | [], _ => by simp [pv, pb0]
  | t :: l, hl => by
    have h1 := h.abs (hl t (by simp))
    have h2 := pv_abs h Y (fun t ht => hl t (by simp [ht]) : ∀ t ∈ l, Q t.1 t.2.1 t.2.2)
    simp only [pv, pb0]
    have h3 := Int.natAbs_add_le t.1 ((Y : Int) * pv Y l)
    rw [Int.natAbs_mul, Int.natAbs_natCast] at h3
    have h4 := Nat.mul_le_mul_left Y h2
    omega

theorem up_good (h : Good Q cond) (Y : Nat) (y : Fin n) : Good (Up Y y Q) (upc Y cond) where
  zero := ⟨[], fun t ht => (by cases ht), rfl, rfl, Nat.le_refl _, fun _ => Nat.le_refl _⟩
  add := by
    rintro v B e v' B' e' ⟨l, h1, rfl, rfl, h4, h5⟩ ⟨m, k1, rfl, rfl, k4, k5⟩
    exact ⟨qadd l m, all_add h h1 k1, (pv_add Y l m).symm, (pe_add y l m).symm, by rw [pb0_add]; exact Nat.add_le_add h4 k4, fun j => by rw [pbs_add]; exact Nat.add_le_add (h5 j) (k5 j)⟩
  mul := by
    rintro v B e v' B' e' ⟨l, h1, rfl, rfl, h4, h5⟩ ⟨m, k1, rfl, rfl, k4, k5⟩
    exact ⟨qmul l m, all_mul h h1 k1, (pv_mul Y l m).symm, (pe_mul y l m).symm, by rw [pb0_mul]; exact Nat.mul_le_mul h4 k4, fun j => by rw [pbs_mul]; exact Nat.mul_le_mul (h5 j) (k5 j)⟩
  neg := by
    rintro v B e ⟨l, h1, rfl, rfl, h4, h5⟩
    exact ⟨qneg l, all_neg h h1, (pv_neg Y l).symm, (pe_neg y l).symm, by rw [pb0_neg]; exact h4, fun j => by rw [pbs_neg]; exact h5 j⟩
  mono := by
    rintro v B B' e ⟨l, h1, h2, h3, h4, h5⟩ hB
    exact ⟨l, h1, h2, h3, Nat.le_trans h4 (hB 0), fun j => Nat.le_trans (h5 j) (hB (j + 1))⟩
  abs := by
    rintro v B e ⟨l, h1, rfl, rfl, h4, _⟩
    exact Nat.le_trans (pv_abs h Y h1) h4
  nul := by
    rintro B e ⟨l, h1, h2, rfl, h4, h5⟩ ⟨c1, c2⟩
    clear h4
    induction l with
    | nil => rfl
    | cons t l ih =>
      have ht := h1 t (by simp)
      have hb : ∀ j, t.2.1 j ≤ B (j + 1) := fun j => Nat.le_trans (Nat.le_add_right _ _) (h5 j)
      have ha : t.1.natAbs < Y := Nat.lt_of_le_of_lt (Nat.le_trans (h.abs ht) (hb 0)) c1
      simp only [pv] at h2
      have hd : (Y : Int) ∣ t.1 := ⟨- pv Y l, by grind⟩
      have h0 : t.1 = 0 := by
        obtain ⟨c, hc⟩ := hd
        rw [hc, Int.natAbs_mul, Int.natAbs_natCast] at ha
        have : c.natAbs = 0 := by
          rcases Nat.eq_zero_or_pos c.natAbs with h | h
          · exact h
          · have := Nat.le_mul_of_pos_right Y h
            omega
        rw [Int.natAbs_eq_zero] at this
        rw [hc, this, Int.mul_zero]
      have hY : (Y : Int) ≠ 0 := by omega
      have hp : pv Y l = 0 := by
        rw [h0, Int.zero_add] at h2
        rcases Int.mul_eq_zero.1 h2.symm with h | h
        · exact absurd h hY
        · exact h
      have e1 : t.2.2 = 0 := by
        rw [h0] at ht
        exact h.nul ht (h.anti hb c2)
      have e2 := ih (fun t ht => h1 t (by simp [ht])) hp.symm (fun j => Nat.le_trans (Nat.le_add_left _ _) (h5 j))
      simp only [pe]
      rw [e1, e2]
      grind
  anti := by
    rintro B B' hB ⟨c1, c2⟩
    exact ⟨Nat.lt_of_le_of_lt (hB 1) c1, h.anti (fun j => hB (j + 1)) c2⟩


/-- integers -/
def Q0 (v : Int) (B : Bd) (e : Fin n) : Prop := ∃ p m : Nat, v = (p : Int) - m ∧ e = Fin.ofNat n p - Fin.ofNat n m ∧ p + m ≤ B 0
theorem ofNat_add (a b : Nat) : Fin.ofNat n (a + b) = Fin.ofNat n a + Fin.ofNat n b := Fin.ext (by rw [Fin.val_add]; exact Nat.add_mod a b n)
theorem ofNat_mul (a b : Nat) : Fin.ofNat n (a * b) = Fin.ofNat n a * Fin.ofNat n b := Fin.ext (by rw [Fin.val_mul]; exact Nat.mul_mod a b n)
theorem q0_good : Good (Q0 (n := n)) (fun _ => True) where
  zero := ⟨0, 0, rfl, by grind, Nat.le_refl _⟩
  add := by
    rintro v B e v' B' e' ⟨p, m, rfl, rfl, h⟩ ⟨p', m', rfl, rfl, h'⟩
    exact ⟨p + p', m + m', by omega, by rw [ofNat_add, ofNat_add]; grind, (by omega : p + p' + (m + m') ≤ B 0 + B' 0)⟩
  mul := by
    rintro v B e v' B' e' ⟨p, m, rfl, rfl, h⟩ ⟨p', m', rfl, rfl, h'⟩
    refine ⟨p * p' + m * m', p * m' + m * p', by push_cast; grind, by rw [ofNat_add, ofNat_add, ofNat_mul, ofNat_mul, ofNat_mul, ofNat_mul]; grind, ?_⟩
    have := Nat.mul_le_mul h h'
    have e : (p + m) * (p' + m') = p * p' + m * m' + (p * m' + m * p') := by grind
    rw [e] at this
    exact this
  neg := by
    rintro v B e ⟨p, m, rfl, rfl, h⟩
    exact ⟨m, p, by omega, by grind, by omega⟩
  mono := by
    rintro v B B' e ⟨p, m, h1, h2, h⟩ hB
    exact ⟨p, m, h1, h2, Nat.le_trans h (hB 0)⟩
  abs := by
    rintro v B e ⟨p, m, rfl, _, h⟩
    omega
  nul := by
    rintro B e ⟨p, m, h1, rfl, _⟩ _
    have : p = m := by omega
    rw [this]; grind
  anti := fun _ _ => trivial

theorem q0_cst (k : Nat) : Q0 (n := n) k (fun _ => k) (Fin.ofNat n k) := ⟨k, 0, by omega, by have : Fin.ofNat n 0 = 0 := rfl; rw [this]; grind, Nat.le_refl _⟩
theorem up_of {v : Int} {B : Bd} {e : Fin n} (Y : Nat) (y : Fin n) (h : Q v B e) : Up Y y Q v (fun j => B (j - 1)) e :=
  ⟨[(v, B, e)], fun t ht => by simp at ht; subst ht; exact h, by simp [pv], by simp only [pe]; grind, by simp [pb0], fun j => by simp [pbs]⟩
theorem up_letter (h : Good Q cond) (Y : Nat) (y : Fin n) (h1 : Q 1 (fun _ => 1) 1) : Up Y y Q Y (fun j => if j = 0 then Y else 1) y :=
  ⟨[izero, (1, (fun _ => 1), 1)], fun t ht => by
    rcases List.mem_cons.1 ht with rfl | ht
    · exact h.zero
    · simp at ht; subst ht; exact h1, by simp [pv, izero], by simp only [pe, izero]; grind, by simp [pb0, izero], fun j => by simp [pbs, izero]⟩

/-! three letters -/
structure KT where
  v : Int
  b1 : Nat
  b2 : Nat
  b3 : Nat
variable (X Y Z : Nat) (x y z : Fin n)
def Q3 : Int → Bd → Fin n → Prop := Up Z z (Up Y y (Up X x Q0))
def cond3 : Bd → Prop := upc Z (upc Y (upc X fun _ => True))
theorem q3_good : Good (Q3 X Y Z x y z) (cond3 X Y Z) := up_good (up_good (up_good q0_good X x) Y y) Z z
def KR (t : KT) (e : Fin n) : Prop := ∃ B, Q3 X Y Z x y z t.v B e ∧ B 1 ≤ t.b1 ∧ B 2 ≤ t.b2 ∧ B 3 ≤ t.b3

/-- a kind of terms -/
structure Tm where
  T : Type
  add : T → T → T
  mul : T → T → T
  neg : T → T
  cst : Nat → T
  isZ : T → Bool
/-- .. and what they stand for -/
structure Sound (t : Tm) (R : t.T → Fin n → Prop) : Prop where
  add : ∀ {a b e f}, R a e → R b f → R (t.add a b) (e + f)
  mul : ∀ {a b e f}, R a e → R b f → R (t.mul a b) (e * f)
  neg : ∀ {a e}, R a e → R (t.neg a) (-e)
  cst : ∀ k, R (t.cst k) (Fin.ofNat n k)
  isZ : ∀ {a e}, R a e → t.isZ a = true → e = 0

def K3 : Tm := ⟨KT, fun a b => ⟨a.v + b.v, a.b1 + b.b1, a.b2 + b.b2, a.b3 + b.b3⟩, fun a b => ⟨a.v * b.v, a.b1 * b.b1, a.b2 * b.b2, a.b3 * b.b3⟩, fun a => ⟨-a.v, a.b1, a.b2, a.b3⟩, fun k => ⟨k, k, k, k⟩,
  fun a => decide (a.v = 0) && (Nat.blt a.b1 Z && (Nat.blt a.b2 Y && Nat.blt a.b3 X))⟩
theorem K3_sound : Sound (K3 X Y Z) (KR X Y Z x y z) where
  add := by
    rintro a b e f ⟨B, h, h1, h2, h3⟩ ⟨B', k, k1, k2, k3⟩
    exact ⟨_, (q3_good X Y Z x y z).add h k, Nat.add_le_add h1 k1, Nat.add_le_add h2 k2, Nat.add_le_add h3 k3⟩
  mul := by
    rintro a b e f ⟨B, h, h1, h2, h3⟩ ⟨B', k, k1, k2, k3⟩
    exact ⟨_, (q3_good X Y Z x y z).mul h k, Nat.mul_le_mul h1 k1, Nat.mul_le_mul h2 k2, Nat.mul_le_mul h3 k3⟩
  neg := by
    rintro a e ⟨B, h, h1, h2, h3⟩
    exact ⟨_, (q3_good X Y Z x y z).neg h, h1, h2, h3⟩
  cst k := ⟨_, up_of Z z (up_of Y y (up_of X x (q0_cst k))), Nat.le_refl _, Nat.le_refl _, Nat.le_refl _⟩
  isZ := by
    rintro a e ⟨B, h, h1, h2, h3⟩ hz
    have hz' : (decide (a.v = 0) && (Nat.blt a.b1 Z && (Nat.blt a.b2 Y && Nat.blt a.b3 X))) = true := hz
    simp only [Bool.and_eq_true, decide_eq_true_eq, Nat.blt_eq] at hz'
    obtain ⟨z0, z1, z2, z3⟩ := hz'
    rw [z0] at h
    exact (q3_good X Y Z x y z).nul h ⟨Nat.lt_of_le_of_lt h1 z1, Nat.lt_of_le_of_lt h2 z2, Nat.lt_of_le_of_lt h3 z3, trivial⟩
def kx : KT := ⟨X, X, X, 1⟩
def ky : KT := ⟨Y, Y, 1, 1⟩
def kz : KT := ⟨Z, 1, 1, 1⟩
theorem q0_one : Q0 (n := n) 1 (fun _ => 1) 1 := q0_cst 1
theorem kx_is : KR X Y Z x y z (kx X) x := ⟨_, up_of Z z (up_of Y y (up_letter q0_good X x q0_one)), Nat.le_refl _, Nat.le_refl _, Nat.le_refl _⟩
theorem up_one {e : Fin n} (W : Nat) (w : Fin n) (h : Q 1 (fun _ => 1) e) : Up W w Q 1 (fun _ => 1) e := up_of W w h
theorem ky_is : KR X Y Z x y z (ky Y) y := ⟨_, up_of Z z (up_letter (up_good q0_good X x) Y y (up_one X x q0_one)), Nat.le_refl _, Nat.le_refl _, Nat.le_refl _⟩
theorem kz_is : KR X Y Z x y z (kz Z) z := ⟨_, up_letter (up_good (up_good q0_good X x) Y y) Z z (up_one Y y (up_one X x q0_one)), Nat.le_refl _, Nat.le_refl _, Nat.le_refl _⟩

/-- a + b y, where y y is c -/
def quad (t : Tm) (c : t.T) : Tm := ⟨t.T × t.T, fun a b => (t.add a.1 b.1, t.add a.2 b.2), fun a b => (t.add (t.mul a.1 b.1) (t.mul c (t.mul a.2 b.2)), t.add (t.mul a.1 b.2) (t.mul a.2 b.1)), fun a => (t.neg a.1, t.neg a.2), fun k => (t.cst k, t.cst 0), fun a => t.isZ a.1 && t.isZ a.2⟩
def QR {T : Type} (R : T → Fin n → Prop) (y : Fin n) (a : T × T) (e : Fin n) : Prop := ∃ f g, R a.1 f ∧ R a.2 g ∧ e = f + g * y
theorem quad_sound {t : Tm} {R : t.T → Fin n → Prop} (h : Sound t R) {c : t.T} {d y : Fin n} (hc : R c d) (hy : y * y = d) : Sound (quad t c) (QR R y) where
  add := by
    rintro a b e f ⟨p, q, h1, h2, rfl⟩ ⟨p', q', k1, k2, rfl⟩
    exact ⟨_, _, h.add h1 k1, h.add h2 k2, by grind⟩
  mul := by
    rintro a b e f ⟨p, q, h1, h2, rfl⟩ ⟨p', q', k1, k2, rfl⟩
    exact ⟨_, _, h.add (h.mul h1 k1) (h.mul hc (h.mul h2 k2)), h.add (h.mul h1 k2) (h.mul h2 k1), by grind⟩
  neg := by
    rintro a e ⟨p, q, h1, h2, rfl⟩
    exact ⟨_, _, h.neg h1, h.neg h2, by grind⟩
  cst k := ⟨_, _, h.cst k, h.cst 0, by have : Fin.ofNat n 0 = 0 := rfl; rw [this]; grind⟩
  isZ := by
    rintro a e ⟨p, q, h1, h2, rfl⟩ hz
    have hz' : (t.isZ a.1 && t.isZ a.2) = true := hz
    rw [Bool.and_eq_true] at hz'
    rw [h.isZ h1 hz'.1, h.isZ h2 hz'.2]; grind
theorem quad_in {t : Tm} {R : t.T → Fin n → Prop} (h : Sound t R) {a : t.T} {e y : Fin n} (ha : R a e) : QR R y (a, t.cst 0) e := ⟨_, _, ha, h.cst 0, by have : Fin.ofNat n 0 = 0 := rfl; rw [this]; grind⟩
theorem quad_y {t : Tm} {R : t.T → Fin n → Prop} (h : Sound t R) {y : Fin n} : QR R y (t.cst 0, t.cst 1) y := ⟨_, _, h.cst 0, h.cst 1, by have h0 : Fin.ofNat n 0 = 0 := rfl; have h1 : Fin.ofNat n 1 = 1 := rfl; rw [h0, h1]; grind⟩

end Ec

namespace Ec
set_option linter.unusedSectionVars false
variable {n : Nat} [NeZero n]

/-- a sum of two points X : Y : Z, whatever they are -/
structure C3 (T : Type) where
  x : T
  y : T
  z : T
def rcb (t : Tm) (A B : C3 t.T) : C3 t.T :=
  let m := t.mul
  let s := t.add
  let yy := m A.y B.y
  let zz := t.mul (t.cst 21) (m A.z B.z)
  let p := s yy zz
  let q := s yy (t.neg zz)
  let xy := s (m A.x B.y) (m B.x A.y)
  let yz := s (m A.y B.z) (m B.y A.z)
  let xz := s (m A.x B.z) (m B.x A.z)
  let xx := m A.x B.x
  ⟨s (m xy q) (t.neg (m (t.cst 21) (m yz xz))), s (m p q) (m (t.cst 63) (m xx xz)), s (m yz p) (m (t.cst 3) (m xx xy))⟩
def xX : Nat := 2 ^ 128
def xY : Nat := 2 ^ (128 * 16)
def xZ : Nat := 2 ^ (128 * 16 * 16)
def B3 : Tm := K3 xX xY xZ
def cub3 (a : KT) : KT := B3.add (B3.mul (B3.mul a a) a) (B3.cst 7)
def F1 : Tm := quad B3 (cub3 (kx xX))
def F2 : Tm := quad F1 (cub3 (ky xY), B3.cst 0)
def F3 : Tm := quad F2 ((cub3 (kz xZ), B3.cst 0), F1.cst 0)
def pA : C3 F3.T := ⟨(((kx xX, B3.cst 0), F1.cst 0), F2.cst 0), (((B3.cst 0, B3.cst 1), F1.cst 0), F2.cst 0), F3.cst 1⟩
def pB : C3 F3.T := ⟨(((ky xY, B3.cst 0), F1.cst 0), F2.cst 0), ((F1.cst 0, F1.cst 1), F2.cst 0), F3.cst 1⟩
def pC : C3 F3.T := ⟨(((kz xZ, B3.cst 0), F1.cst 0), F2.cst 0), (F2.cst 0, F2.cst 1), F3.cst 1⟩
def Lf : C3 F3.T := rcb F3 (rcb F3 pA pB) pC
def Rg : C3 F3.T := rcb F3 pA (rcb F3 pB pC)
def crs (a b c d : F3.T) : F3.T := F3.add (F3.mul a d) (F3.neg (F3.mul b c))
theorem k0 : F3.isZ (crs Lf.x Rg.x Lf.z Rg.z) = true := by decide +kernel
theorem k1 : F3.isZ (crs Lf.y Rg.y Lf.z Rg.z) = true := by decide +kernel

/-- .. of numbers mod n -/
def fT (n : Nat) [NeZero n] : Tm := ⟨Fin n, fun a b => a + b, fun a b => a * b, fun a => -a, fun k => Fin.ofNat n k, fun a => decide (a = 0)⟩
abbrev rcbF (A B : C3 (Fin n)) : C3 (Fin n) := rcb (fT n) A B

def CR {t : Tm} (R : t.T → Fin n → Prop) (A : C3 t.T) (B : C3 (Fin n)) : Prop := R A.x B.x ∧ R A.y B.y ∧ R A.z B.z
theorem rcb_is {t : Tm} {R : t.T → Fin n → Prop} (h : Sound t R) {A B : C3 t.T} {A' B' : C3 (Fin n)} (hA : CR R A A') (hB : CR R B B') : CR R (rcb t A B) (rcbF A' B') := by
  obtain ⟨a1, a2, a3⟩ := hA
  obtain ⟨b1, b2, b3⟩ := hB
  have yy := h.mul a2 b2
  have zz := h.mul (h.cst 21) (h.mul a3 b3)
  have p := h.add yy zz
  have q := h.add yy (h.neg zz)
  have xy := h.add (h.mul a1 b2) (h.mul b1 a2)
  have yz := h.add (h.mul a2 b3) (h.mul b2 a3)
  have xz := h.add (h.mul a1 b3) (h.mul b1 a3)
  have xx := h.mul a1 b1
  exact ⟨h.add (h.mul xy q) (h.neg (h.mul (h.cst 21) (h.mul yz xz))), h.add (h.mul p q) (h.mul (h.cst 63) (h.mul xx xz)), h.add (h.mul yz p) (h.mul (h.cst 3) (h.mul xx xy))⟩

theorem crs_is {R : F3.T → Fin n → Prop} (h : Sound F3 R) {L M : C3 F3.T} {L' M' : C3 (Fin n)} (hL : CR R L L') (hM : CR R M M') :
    (F3.isZ (crs L.x M.x L.z M.z) = true → L'.x * M'.z + -(M'.x * L'.z) = 0) ∧ (F3.isZ (crs L.y M.y L.z M.z) = true → L'.y * M'.z + -(M'.y * L'.z) = 0) :=
  ⟨fun hz => h.isZ (h.add (h.mul hL.1 hM.2.2) (h.neg (h.mul hM.1 hL.2.2))) hz, fun hz => h.isZ (h.add (h.mul hL.2.1 hM.2.2) (h.neg (h.mul hM.2.1 hL.2.2))) hz⟩

theorem assoc_of {R : F3.T → Fin n → Prop} (h : Sound F3 R) {A B C : C3 (Fin n)} (hA : CR R pA A) (hB : CR R pB B) (hC : CR R pC C) :
    (rcbF (rcbF A B) C).x * (rcbF A (rcbF B C)).z + -((rcbF A (rcbF B C)).x * (rcbF (rcbF A B) C).z) = 0 ∧ (rcbF (rcbF A B) C).y * (rcbF A (rcbF B C)).z + -((rcbF A (rcbF B C)).y * (rcbF (rcbF A B) C).z) = 0 := by
  have hL : CR R Lf (rcbF (rcbF A B) C) := rcb_is h (rcb_is h hA hB) hC
  have hM : CR R Rg (rcbF A (rcbF B C)) := rcb_is h hA (rcb_is h hB hC)
  have := crs_is h hL hM
  exact ⟨this.1 k0, this.2 k1⟩

theorem assoc_raw {x1 y1 x2 y2 x3 y3 : Fin n} (h1 : y1 * y1 = x1 * x1 * x1 + Fin.ofNat n 7) (h2 : y2 * y2 = x2 * x2 * x2 + Fin.ofNat n 7) (h3 : y3 * y3 = x3 * x3 * x3 + Fin.ofNat n 7) :
    let A : C3 (Fin n) := ⟨x1, y1, Fin.ofNat n 1⟩
    let B : C3 (Fin n) := ⟨x2, y2, Fin.ofNat n 1⟩
    let C : C3 (Fin n) := ⟨x3, y3, Fin.ofNat n 1⟩
    let L := rcbF (rcbF A B) C
    let R := rcbF A (rcbF B C)
    L.x * R.z + -(R.x * L.z) = 0 ∧ L.y * R.z + -(R.y * L.z) = 0 := by
  have s0 : Sound B3 (KR xX xY xZ x1 x2 x3) := K3_sound xX xY xZ x1 x2 x3
  have c : ∀ {a e}, KR xX xY xZ x1 x2 x3 a e → KR xX xY xZ x1 x2 x3 (cub3 a) (e * e * e + Fin.ofNat n 7) := fun ha => s0.add (s0.mul (s0.mul ha ha) ha) (s0.cst 7)
  have kx' := kx_is xX xY xZ x1 x2 x3
  have ky' := ky_is xX xY xZ x1 x2 x3
  have kz' := kz_is xX xY xZ x1 x2 x3
  have s1 : Sound F1 (QR (KR xX xY xZ x1 x2 x3) y1) := quad_sound s0 (c kx') h1
  have s2 : Sound F2 (QR (QR (KR xX xY xZ x1 x2 x3) y1) y2) := quad_sound s1 (quad_in s0 (c ky')) h2
  have s3 : Sound F3 (QR (QR (QR (KR xX xY xZ x1 x2 x3) y1) y2) y3) := quad_sound s2 (quad_in s1 (quad_in s0 (c kz'))) h3
  have hA : CR (t := F3) (QR (QR (QR (KR xX xY xZ x1 x2 x3) y1) y2) y3) pA (⟨x1, y1, Fin.ofNat n 1⟩ : C3 (Fin n)) := ⟨quad_in s2 (quad_in s1 (quad_in s0 kx')), quad_in s2 (quad_in s1 (quad_y s0)), s3.cst 1⟩
  have hB : CR (t := F3) (QR (QR (QR (KR xX xY xZ x1 x2 x3) y1) y2) y3) pB (⟨x2, y2, Fin.ofNat n 1⟩ : C3 (Fin n)) := ⟨quad_in s2 (quad_in s1 (quad_in s0 ky')), quad_in s2 (quad_y s1), s3.cst 1⟩
  have hC : CR (t := F3) (QR (QR (QR (KR xX xY xZ x1 x2 x3) y1) y2) y3) pC (⟨x3, y3, Fin.ofNat n 1⟩ : C3 (Fin n)) := ⟨quad_in s2 (quad_in s1 (quad_in s0 kz')), quad_y s2, s3.cst 1⟩
  exact assoc_of s3 hA hB hC

end Ec

namespace Ec
set_option linter.unusedSectionVars false
variable {n : Nat} [NeZero n] {inv : Fin n → Fin n}

theorem chord_z {x1 y1 x2 y2 N D : Fin n} (h1 : y1 * y1 = x1 * x1 * x1 + 7) (h2 : y2 * y2 = x2 * x2 * x2 + 7) (hN : N = -(y1 + y2)) (hD : D = x2 - x1) :
    N * (x1 * (D * D) - (N * N - (x1 + x2) * (D * D))) - y1 * (D * D * D) = (y1 + y2) * (y1 * y2 + 21) + 3 * (x1 * x2) * (x1 * y2 + x2 * y1) := by
  subst hN hD; grind
theorem chord_x {x1 y1 x2 y2 N D : Fin n} (h1 : y1 * y1 = x1 * x1 * x1 + 7) (h2 : y2 * y2 = x2 * x2 * x2 + 7) (hN : N = y2 - y1) (hD : D = x2 - x1) :
    ((x1 * y2 + x2 * y1) * (y1 * y2 - 21) - 21 * ((y1 + y2) * (x1 + x2))) * (D * D) = (N * N - (x1 + x2) * (D * D)) * ((y1 + y2) * (y1 * y2 + 21) + 3 * (x1 * x2) * (x1 * y2 + x2 * y1)) := by
  subst hN hD; grind
theorem chord_y {x1 y1 x2 y2 N D : Fin n} (h1 : y1 * y1 = x1 * x1 * x1 + 7) (h2 : y2 * y2 = x2 * x2 * x2 + 7) (hN : N = y2 - y1) (hD : D = x2 - x1) :
    ((y1 * y2 + 21) * (y1 * y2 - 21) + 63 * (x1 * x2 * (x1 + x2))) * (D * D * D) = (N * (x1 * (D * D) - (N * N - (x1 + x2) * (D * D))) - y1 * (D * D * D)) * ((y1 + y2) * (y1 * y2 + 21) + 3 * (x1 * x2) * (x1 * y2 + x2 * y1)) := by
  subst hN hD; grind

/-- a point of the curve -/
def On : Pt n → Prop
  | none => True
  | some (x, y) => y * y = x * x * x + 7

structure Curve (inv : Fin n → Fin n) : Prop extends Inv inv where
  nz : ∀ x : Fin n, x * x * x + 7 ≠ 0

theorem Curve.y0 (h : Curve inv) {x y : Fin n} (ho : y * y = x * x * x + 7) : y ≠ 0 := fun e => h.nz x (by rw [← ho, e]; grind)

/-- a chord's third point lies on the curve -/
theorem third_on (h : Curve inv) {x1 y1 x2 y2 l : Fin n} (h1 : y1 * y1 = x1 * x1 * x1 + 7) (h2 : y2 * y2 = x2 * x2 * x2 + 7) (hne : x2 ≠ x1) (hl : l * (x2 - x1) = y2 - y1) : On (some (third l x1 y1 x2)) := by
  have hd : x2 - x1 ≠ 0 := fun e => hne (by grind)
  show (l * (x1 - (l * l - x1 - x2)) - y1) * (l * (x1 - (l * l - x1 - x2)) - y1) = (l * l - x1 - x2) * (l * l - x1 - x2) * (l * l - x1 - x2) + 7
  apply h.can hd
  grind
theorem dbl_on (h : Curve inv) {x1 y1 l : Fin n} (h1 : y1 * y1 = x1 * x1 * x1 + 7) (hl : l * (2 * y1) = 3 * x1 * x1) : On (some (third l x1 y1 x1)) := by
  have hy := h.y0 h1
  show (l * (x1 - (l * l - x1 - x1)) - y1) * (l * (x1 - (l * l - x1 - x1)) - y1) = (l * l - x1 - x1) * (l * l - x1 - x1) * (l * l - x1 - x1) + 7
  grind

theorem add_on (h : Curve inv) {A B : Pt n} (hA : On A) (hB : On B) : On (add inv A B) := by
  cases A with
  | none => exact hB
  | some p =>
    cases B with
    | none => exact hA
    | some q =>
      obtain ⟨x1, y1⟩ := p
      obtain ⟨x2, y2⟩ := q
      have h1 : y1 * y1 = x1 * x1 * x1 + 7 := hA
      have h2 : y2 * y2 = x2 * x2 * x2 + 7 := hB
      simp only [add]
      split
      · split
        · simp only [dbl, if_neg (h.y0 h1)]
          exact dbl_on h h1 (tang_eq h.toInv (h.y0 h1))
        · trivial
      · rename_i hne
        exact third_on h h1 h2 hne (slope_eq h.toInv hne)

end Ec

namespace Ec
set_option linter.unusedSectionVars false
variable {n : Nat} [NeZero n] {inv : Fin n → Fin n}

theorem rcb_x (A B : C3 (Fin n)) : (rcbF A B).x = (A.x * B.y + B.x * A.y) * (A.y * B.y + -(21 * (A.z * B.z))) + -(21 * ((A.y * B.z + B.y * A.z) * (A.x * B.z + B.x * A.z))) := rfl
theorem rcb_y (A B : C3 (Fin n)) : (rcbF A B).y = (A.y * B.y + 21 * (A.z * B.z)) * (A.y * B.y + -(21 * (A.z * B.z))) + 63 * (A.x * B.x * (A.x * B.z + B.x * A.z)) := rfl
theorem rcb_z (A B : C3 (Fin n)) : (rcbF A B).z = (A.y * B.z + B.y * A.z) * (A.y * B.y + 21 * (A.z * B.z)) + 3 * (A.x * B.x * (A.x * B.y + B.x * A.y)) := rfl

theorem negSq (y : Fin n) : (-y) * (-y) = y * y := by grind
theorem negAdd (a b : Fin n) : -(a + b) = -b - a := by grind

theorem finZ {m x1 y1 x2 D Za : Fin n} (c : m * D * (x1 * (D * D) - (m * D * (m * D) - (x1 + x2) * (D * D))) - y1 * (D * D * D) = Za) : Za = (m * (x1 - (m * m - x1 - x2)) - y1) * (D * (D * D)) := by rw [← c]; grind
theorem finX {l x1 x2 D Xa Za : Fin n} (c : Xa * (D * D) = (l * D * (l * D) - (x1 + x2) * (D * D)) * Za) : Xa * (D * D) = (l * l - x1 - x2) * Za * (D * D) := by rw [c]; grind
theorem finY {l x1 y1 x2 D Ya Za : Fin n} (c : Ya * (D * D * D) = (l * D * (x1 * (D * D) - (l * D * (l * D) - (x1 + x2) * (D * D))) - y1 * (D * D * D)) * Za) : Ya * (D * D * D) = (l * (x1 - (l * l - x1 - x2)) - y1) * Za * (D * D * D) := by rw [c]; grind
theorem finS {X Z Xa Za s t : Fin n} (h1 : X = Xa * s) (h2 : Z = Za * s) (h3 : Xa = t * Za) : X = t * Z := by rw [h1, h2, h3]; grind

/-- what X : Y : Z stands for -/
def RP (c : C3 (Fin n)) : Pt n → Prop
  | none => c.x = 0 ∧ c.z = 0 ∧ c.y ≠ 0
  | some (a, b) => c.z ≠ 0 ∧ c.x = a * c.z ∧ c.y = b * c.z

theorem RP_uniq (h : Inv inv) {c d : C3 (Fin n)} {A B : Pt n} (hA : RP c A) (hB : RP d B) (e1 : c.x * d.z + -(d.x * c.z) = 0) (e2 : c.y * d.z + -(d.y * c.z) = 0) : A = B := by
  cases A with
  | none =>
    obtain ⟨a1, a2, a3⟩ := hA
    cases B with
    | none => rfl
    | some q =>
      obtain ⟨b1, b2, b3⟩ := hB
      exact absurd (show c.y * d.z = 0 by rw [a2] at e2; grind) (h.dom a3 b1)
  | some p =>
    obtain ⟨x1, y1⟩ := p
    obtain ⟨a1, a2, a3⟩ := hA
    cases B with
    | none =>
      obtain ⟨b1, b2, b3⟩ := hB
      exact absurd (show d.y * c.z = 0 by rw [b2] at e2; grind) (h.dom b3 a1)
    | some q =>
      obtain ⟨x2, y2⟩ := q
      obtain ⟨b1, b2, b3⟩ := hB
      have hz := h.dom a1 b1
      have ex : x1 = x2 := by apply h.can hz; rw [a2, b2] at e1; grind
      have ey : y1 = y2 := by apply h.can hz; rw [a3, b3] at e2; grind
      rw [ex, ey]

theorem RP_add (h : Curve inv) {c d : C3 (Fin n)} {A B : Pt n} (hA : On A) (hB : On B) (rA : RP c A) (rB : RP d B) : RP (rcbF c d) (add inv A B) := by
  have hI := h.toInv
  obtain ⟨cx, cy, cz⟩ := c
  obtain ⟨dx, dy, dz⟩ := d
  cases A with
  | none =>
    obtain ⟨a1, a2, a3⟩ := rA
    dsimp only at a1 a2 a3
    subst a1 a2
    cases B with
    | none =>
      obtain ⟨b1, b2, b3⟩ := rB
      dsimp only at b1 b2 b3
      subst b1 b2
      refine ⟨by rw [rcb_x]; grind, by rw [rcb_z]; grind, ?_⟩
      rw [rcb_y]
      have := hI.dom (hI.dom a3 b3) (hI.dom a3 b3)
      intro e
      exact this (by grind)
    | some q =>
      obtain ⟨x, y⟩ := q
      obtain ⟨b1, b2, b3⟩ := rB
      dsimp only at b1 b2 b3
      subst b2 b3
      have hy := h.y0 (x := x) (y := y) hB
      refine ⟨?_, by rw [rcb_x, rcb_z]; grind, by rw [rcb_y, rcb_z]; grind⟩
      rw [rcb_z]
      have := hI.dom (hI.dom a3 b1) (hI.dom a3 (hI.dom hy b1))
      intro e
      exact this (by grind)
  | some p =>
    obtain ⟨x1, y1⟩ := p
    obtain ⟨a1, a2, a3⟩ := rA
    dsimp only at a1 a2 a3
    subst a2 a3
    have h1 : y1 * y1 = x1 * x1 * x1 + 7 := hA
    have hy1 := h.y0 h1
    cases B with
    | none =>
      obtain ⟨b1, b2, b3⟩ := rB
      dsimp only at b1 b2 b3
      subst b1 b2
      refine ⟨?_, by rw [rcb_x, rcb_z]; grind, by rw [rcb_y, rcb_z]; grind⟩
      rw [rcb_z]
      have := hI.dom (hI.dom b3 a1) (hI.dom b3 (hI.dom hy1 a1))
      intro e
      exact this (by grind)
    | some q =>
      obtain ⟨x2, y2⟩ := q
      obtain ⟨b1, b2, b3⟩ := rB
      dsimp only at b1 b2 b3
      subst b2 b3
      have h2 : y2 * y2 = x2 * x2 * x2 + 7 := hB
      have hs : cz * cz * (dz * dz) ≠ 0 := hI.dom (hI.dom a1 a1) (hI.dom b1 b1)
      have eX : (rcbF ⟨x1 * cz, y1 * cz, cz⟩ ⟨x2 * dz, y2 * dz, dz⟩).x = ((x1 * y2 + x2 * y1) * (y1 * y2 - 21) - 21 * ((y1 + y2) * (x1 + x2))) * (cz * cz * (dz * dz)) := by rw [rcb_x]; grind
      have eY : (rcbF ⟨x1 * cz, y1 * cz, cz⟩ ⟨x2 * dz, y2 * dz, dz⟩).y = ((y1 * y2 + 21) * (y1 * y2 - 21) + 63 * (x1 * x2 * (x1 + x2))) * (cz * cz * (dz * dz)) := by rw [rcb_y]; grind
      have eZ : (rcbF ⟨x1 * cz, y1 * cz, cz⟩ ⟨x2 * dz, y2 * dz, dz⟩).z = ((y1 + y2) * (y1 * y2 + 21) + 3 * (x1 * x2) * (x1 * y2 + x2 * y1)) * (cz * cz * (dz * dz)) := by rw [rcb_z]; grind
      generalize cz * cz * (dz * dz) = s at *
      generalize rcbF ⟨x1 * cz, y1 * cz, cz⟩ ⟨x2 * dz, y2 * dz, dz⟩ = r at *
      obtain ⟨X, Y, Z⟩ := r
      dsimp only at eX eY eZ
      by_cases hx : x2 = x1
      · subst hx
        by_cases hy : y2 = y1
        · subst hy
          simp only [add, dbl, if_neg hy1, if_true]
          have hl := tang_eq hI (x := x2) hy1
          unfold third
          generalize tang inv x2 y2 = l at *
          refine ⟨?_, ?_, ?_⟩
          · show Z ≠ 0
            have h8 := hI.dom (hI.dom (hI.dom hI.two (hI.dom hI.two hI.two)) (hI.dom hy1 (hI.dom hy1 hy1))) hs
            intro e
            exact h8 (by grind)
          · show X = _ * Z
            rw [eX, eZ]; grind
          · show Y = _ * Z
            rw [eY, eZ]; grind
        · have hsum : y2 = -y1 := by
            by_cases h0 : y2 + y1 = 0
            · grind
            · exact absurd (show (y2 - y1) * (y2 + y1) = 0 by grind) (hI.dom (fun e => hy (by grind)) h0)
          simp only [add, if_neg hy, if_true]
          refine ⟨?_, ?_, ?_⟩
          · show X = 0
            rw [eX, hsum]; grind
          · show Z = 0
            rw [eZ, hsum]; grind
          · show Y ≠ 0
            have hl := tang_eq hI (x := x2) hy1
            have hon := dbl_on h h1 hl
            generalize tang inv x2 y1 = l at *
            have h3 := h.y0 hon
            have h8 := hI.dom (hI.dom (hI.dom (hI.dom hI.two (hI.dom hI.two hI.two)) (hI.dom hy1 (hI.dom hy1 hy1))) h3) hs
            intro e
            apply h8
            rw [eY, hsum] at e
            grind
      · simp only [add, if_neg hx]
        have hd : x2 - x1 ≠ 0 := fun e => hx (by grind)
        have hl := slope_eq hI (y1 := y1) (y2 := y2) hx
        have hm := slope_eq hI (y1 := y1) (y2 := -y2) hx
        have hon := third_on h h1 (show (-y2) * (-y2) = x2 * x2 * x2 + 7 by rw [negSq]; exact h2) hx hm
        have cz' := chord_z h1 h2 rfl rfl
        have cx' := chord_x h1 h2 rfl rfl
        have cy' := chord_y h1 h2 rfl rfl
        unfold third
        generalize slope inv x1 y1 x2 y2 = l at *
        generalize slope inv x1 y1 x2 (-y2) = m at *
        have h4 := h.y0 hon
        have em : -(y1 + y2) = m * (x2 - x1) := by rw [hm]; exact negAdd y1 y2
        rw [em] at cz'
        rw [← hl] at cx' cy'
        have hZ : (y1 + y2) * (y1 * y2 + 21) + 3 * (x1 * x2) * (x1 * y2 + x2 * y1) ≠ 0 := by
          rw [finZ cz']
          exact hI.dom h4 (hI.dom hd (hI.dom hd hd))
        refine ⟨?_, ?_, ?_⟩
        · show Z ≠ 0
          rw [eZ]; exact hI.dom hZ hs
        · exact finS eX eZ (hI.can (hI.dom hd hd) (finX cx'))
        · exact finS eY eZ (hI.can (hI.dom (hI.dom hd hd) hd) (finY cy'))

/-- sums are grouped as you like -/
theorem add_assoc (h : Curve inv) {A B C : Pt n} (hA : On A) (hB : On B) (hC : On C) : add inv (add inv A B) C = add inv A (add inv B C) := by
  cases A with
  | none => rfl
  | some p =>
    cases B with
    | none => cases C <;> rfl
    | some q =>
      cases C with
      | none =>
        have : ∀ D : Pt n, add inv D none = D := fun D => by cases D <;> rfl
        rw [this, this]
      | some r =>
        obtain ⟨x1, y1⟩ := p
        obtain ⟨x2, y2⟩ := q
        obtain ⟨x3, y3⟩ := r
        have one : ∀ x y : Fin n, RP ⟨x, y, Fin.ofNat n 1⟩ (some (x, y)) := fun x y => by
          have e1 : Fin.ofNat n 1 = 1 := rfl
          have n1 : (1 : Fin n) ≠ 0 := fun e => h.two (by grind)
          refine ⟨by rw [e1]; exact n1, ?_, ?_⟩ <;> (rw [e1]; dsimp only; grind)
        have r1 := one x1 y1
        have r2 := one x2 y2
        have r3 := one x3 y3
        have hAB := add_on h hA hB
        have hBC := add_on h hB hC
        have L := RP_add h hAB hC (RP_add h hA hB r1 r2) r3
        have M := RP_add h hA hBC r1 (RP_add h hB hC r2 r3)
        have e := assoc_raw (show y1 * y1 = x1 * x1 * x1 + Fin.ofNat n 7 from hA) (show y2 * y2 = x2 * x2 * x2 + Fin.ofNat n 7 from hB) (show y3 * y3 = x3 * x3 * x3 + Fin.ofNat n 7 from hC)
        exact RP_uniq h.toInv L M e.1 e.2

/-- whichever is first -/
theorem add_comm (h : Inv inv) (A B : Pt n) : add inv A B = add inv B A := by
  cases A with
  | none => cases B <;> rfl
  | some p =>
    cases B with
    | none => rfl
    | some q =>
      obtain ⟨x1, y1⟩ := p
      obtain ⟨x2, y2⟩ := q
      simp only [add]
      by_cases hx : x2 = x1
      · subst hx
        by_cases hy : y2 = y1
        · subst hy; rfl
        · rw [if_pos rfl, if_neg hy, if_pos rfl, if_neg (fun e => hy e.symm)]
      · rw [if_neg hx, if_neg (fun e => hx e.symm)]
        have h1 := slope_eq h (y1 := y1) (y2 := y2) hx
        have h2 := slope_eq h (x1 := x2) (y1 := y2) (x2 := x1) (y2 := y1) (fun e => hx e.symm)
        have e : slope inv x1 y1 x2 y2 = slope inv x2 y2 x1 y1 := by
          apply h.can (c := x2 - x1) (fun e => hx (by grind))
          rw [h1]; grind
        rw [e]
        generalize slope inv x2 y2 x1 y1 = l at *
        unfold third
        congr 1
        refine Prod.ext ?_ ?_
        · dsimp only; grind
        · dsimp only; grind

end Ec
