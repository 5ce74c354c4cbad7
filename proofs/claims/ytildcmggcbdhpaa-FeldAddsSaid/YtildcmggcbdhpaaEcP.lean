/- Plain: many times a point; Q times any point of the curve is nothing. No program in sight. -/
import Derived.Test.YtildcmggcbdhpaaLawGroup
namespace Go.Proofs.Ytildcmggcbdhpaa
set_option exponentiation.threshold 400
set_option maxRecDepth 100000

/-- the curve's points -/
def Cp : Type := { A : Pnt // Ec.On A }
namespace Cp
instance : Add Cp := ⟨fun a b => ⟨sum a.1 b.1, sum_on a.2 b.2⟩⟩
def o : Cp := ⟨none, trivial⟩
theorem add_val (a b : Cp) : (a + b).1 = sum a.1 b.1 := rfl
theorem ext {a b : Cp} (h : a.1 = b.1) : a = b := Subtype.ext h
theorem assoc (a b c : Cp) : a + b + c = a + (b + c) := ext (sum_assoc a.2 b.2 c.2)
theorem comm (a b : Cp) : a + b = b + a := ext (sum_comm a.1 b.1)
instance : Std.Associative (α := Cp) (· + ·) := ⟨assoc⟩
instance : Std.Commutative (α := Cp) (· + ·) := ⟨comm⟩
theorem add_o (a : Cp) : a + o = a := ext (add_none a.1)
theorem o_add (a : Cp) : o + a = a := ext (none_add a.1)

/-- k times -/
def mul : Nat → Cp → Cp
  | 0, _ => o
  | k + 1, a => mul k a + a
theorem mul_zero (a : Cp) : mul 0 a = o := rfl
theorem mul_succ (k : Nat) (a : Cp) : mul (k + 1) a = mul k a + a := rfl
theorem mul_one (a : Cp) : mul 1 a = a := o_add a
theorem mul_add (j : Nat) : ∀ (k : Nat) (a : Cp), mul (j + k) a = mul j a + mul k a
  | 0, a => (add_o _).symm
  | k + 1, a => by rw [← Nat.add_assoc, mul_succ, mul_add j k a, mul_succ, assoc]
theorem mul_sum : ∀ (k : Nat) (a b : Cp), mul k (a + b) = mul k a + mul k b
  | 0, _, _ => (o_add o).symm
  | k + 1, a, b => by rw [mul_succ, mul_sum k a b, mul_succ, mul_succ]; ac_rfl
theorem mul_mul (j : Nat) : ∀ (k : Nat) (a : Cp), mul (j * k) a = mul j (mul k a)
  | 0, a => by
    rw [Nat.mul_zero, mul_zero]
    clear a
    induction j with
    | zero => rfl
    | succ j ih => rw [mul_succ, ← ih, add_o]
  | k + 1, a => by rw [Nat.mul_succ, mul_add, mul_mul j k a, mul_succ, mul_sum]
theorem mul_o : ∀ k, mul k o = o
  | 0 => rfl
  | k + 1 => by rw [mul_succ, mul_o k, add_o]

/-- the negative -/
def negP : Pnt → Pnt
  | none => none
  | some (a, b) => some (a, 0 - b)
theorem neg_on {A : Pnt} (h : Ec.On A) : Ec.On (negP A) := by
  cases A with
  | none => trivial
  | some q => obtain ⟨a, b⟩ := q; show (0 - b) * (0 - b) = _; have h' : b * b = a * a * a + 7 := h; grind
def neg (a : Cp) : Cp := ⟨negP a.1, neg_on a.2⟩
theorem b_ne {a b : K} (h : Ec.On (some (a, b) : Pnt)) : b ≠ 0 := Ec.Curve.y0 isCurve h
theorem two_ne {b : K} (h : b ≠ 0) : b + b ≠ 0 := fun h0 => by
  have h2 : (2 : K) ≠ 0 := isInv.two
  exact isInv.dom h2 h (by grind)
theorem add_neg (a : Cp) : a + neg a = o := by
  refine ext ?_
  obtain ⟨A, h⟩ := a
  cases A with
  | none => rfl
  | some q =>
    obtain ⟨a, b⟩ := q
    refine sum_neg fun e => two_ne (b_ne h) ?_
    have e' : (0 : K) - b = b := e
    grind
theorem cancel {a b c : Cp} (h : a + b = a + c) : b = c := by
  have e := congrArg (neg a + ·) h
  rw [← assoc, ← assoc, comm (neg a) a, add_neg, o_add, o_add] at e
  exact e
theorem neg_of {a b : Cp} (h : a + b = o) : b = neg a := cancel (h.trans (add_neg a).symm)
theorem mul_neg (k : Nat) (a : Cp) : mul k (neg a) = neg (mul k a) := neg_of (by rw [← mul_sum, add_neg, mul_o])
theorem no_two {a : Cp} (h : a + a = o) : a = o := by
  refine ext ?_
  have e := congrArg Subtype.val h
  rw [add_val] at e
  obtain ⟨A, hA⟩ := a
  cases A with
  | none => rfl
  | some q =>
    obtain ⟨a, b⟩ := q
    exfalso
    have hb := b_ne hA
    dsimp only at e
    unfold sum at e
    simp only [Ec.add, Ec.dbl, if_true, if_neg hb] at e
    cases e

/-- a number for each point -/
def code : Pnt → Nat
  | none => 2 * P
  | some (a, b) => 2 * a.val + b.val % 2
theorem code_lt (A : Pnt) : code A < 2 * P + 1 := by
  cases A with
  | none => exact Nat.lt_succ_self _
  | some q => obtain ⟨a, b⟩ := q; have := a.isLt; show 2 * a.val + b.val % 2 < _; omega
theorem opp_val {b c : K} (h : b + c = 0) (hb : b ≠ 0) : b.val + c.val = P := by
  have e := congrArg Fin.val h
  rw [Fin.val_add] at e
  have h1 := b.isLt
  have h2 := c.isLt
  have h3 : b.val ≠ 0 := fun e => hb (Fin.ext e)
  have e' : (b.val + c.val) % P = 0 := e
  by_cases hl : b.val + c.val < P
  · rw [Nat.mod_eq_of_lt hl] at e'; omega
  · rw [Nat.mod_eq_sub_mod (by omega), Nat.mod_eq_of_lt (by omega)] at e'; omega
theorem P_odd : P % 2 = 1 := by decide
theorem code_inj {A B : Pnt} (hA : Ec.On A) (hB : Ec.On B) (h : code A = code B) : A = B := by
  cases A with
  | none =>
    cases B with
    | none => rfl
    | some q => obtain ⟨a, b⟩ := q; have := a.isLt; have h' : 2 * P = 2 * a.val + b.val % 2 := h; omega
  | some p =>
    obtain ⟨a, b⟩ := p
    cases B with
    | none => have := a.isLt; have h' : 2 * a.val + b.val % 2 = 2 * P := h; omega
    | some q =>
      obtain ⟨c, d⟩ := q
      have h' : 2 * a.val + b.val % 2 = 2 * c.val + d.val % 2 := h
      have e1 : a = c := Fin.ext (by omega)
      subst e1
      have h1 : b * b = a * a * a + 7 := hA
      have h2 : d * d = a * a * a + 7 := hB
      have hb := b_ne hA
      by_cases hs : b + d = 0
      · have := opp_val hs hb
        have := P_odd
        omega
      · by_cases hd : b - d = 0
        · have : b = d := by grind
          rw [this]
        · exact absurd (by grind) (isInv.dom hs hd)

theorem pigeon : ∀ (m n : Nat) (f : Nat → Nat), (∀ i, i < n → f i < m) → (∀ i j, i < n → j < n → f i = f j → i = j) → n ≤ m
  | 0, n, f, h, _ => by
    rcases Nat.eq_zero_or_pos n with h0 | h0
    · omega
    · have := h 0 h0; omega
  | m + 1, 0, _, _, _ => Nat.zero_le _
  | m + 1, n + 1, f, h, hi => by
    have := pigeon m n (fun i => if f i = m then f n else f i) (fun i hin => by
      have h1 := h i (by omega)
      have h2 := h n (by omega)
      split
      · rename_i e
        have : f n ≠ m := fun e2 => by have := hi i n (by omega) (by omega) (e.trans e2.symm); omega
        omega
      · omega) (fun i j hin hjn e => by
      split at e <;> split at e
      · rename_i e1 e2; exact hi i j (by omega) (by omega) (e1.trans e2.symm)
      · have := hi n j (by omega) (by omega) e; omega
      · have := hi i n (by omega) (by omega) e; omega
      · exact hi i j (by omega) (by omega) e)
    omega

/-- double and add, on numbers -/
def mulJ : Nat → Nat → J → J
  | 0, _, _ => ⟨0, 1, 0⟩
  | n + 1, k, a => if k % 2 = 1 then opl (twi (mulJ n (k / 2) a)) a else twi (mulJ n (k / 2) a)
theorem sum_self (A : Pnt) : sum A A = Ec.dbl inK A := by
  cases A with
  | none => rfl
  | some q => obtain ⟨a, b⟩ := q; unfold sum; simp only [Ec.add, if_true]
theorem mulJ_is {a : J} {A : Cp} (h : OO a A.1) (hl : a.lt) : ∀ n k, k < 2 ^ n → OO (mulJ n k a) (mul k A).1 ∧ (mulJ n k a).lt
  | 0, k, hk => by
    have : k = 0 := by omega
    subst this
    exact ⟨OO_inf, P_pos, (by decide : 1 < P), P_pos⟩
  | n + 1, k, hk => by
    obtain ⟨h1, h2⟩ := mulJ_is h hl n (k / 2) (by rw [Nat.pow_succ] at hk; omega)
    have h3 := OO_twi h1 h2
    rw [← sum_self, ← add_val, ← mul_add] at h3
    simp only [mulJ]
    by_cases hb : k % 2 = 1
    · rw [if_pos hb]
      have h4 := OO_opl h3 h (twi_lt _) hl
      rw [← add_val, ← mul_succ, show k / 2 + k / 2 + 1 = k by omega] at h4
      exact ⟨h4, opl_lt (twi_lt _) hl⟩
    · rw [if_neg hb]
      rw [show k / 2 + k / 2 = k by omega] at h3
      exact ⟨h3, twi_lt _⟩

def g : Cp := ⟨pt GX GY false, pt_on G_is⟩
theorem g_ne : g ≠ o := fun h => by have := congrArg Subtype.val h; cases this
theorem QG_z : (mulJ 256 Q ⟨GX, GY, 1⟩).z = 0 := by decide +kernel
theorem g_OO : OO ⟨GX, GY, 1⟩ g.1 := oIn_OO GX GY false
theorem g_lt : (⟨GX, GY, 1⟩ : J).lt := ⟨by decide, by decide, by decide⟩
theorem Q_g : mul Q g = o := by
  have hz := QG_z
  have h := mulJ_is (A := g) g_OO g_lt 256
  generalize hq : Q = q at *
  obtain ⟨h1, _⟩ := h q (by rw [← hq]; decide)
  exact ext (OO_zero h1 hz)
theorem mul_mod (k : Nat) {a : Cp} (h : mul Q a = o) : mul (k % Q) a = mul k a := by
  have e : k = k % Q + k / Q * Q := by have := Nat.mod_add_div k Q; rw [Nat.mul_comm] at this; exact this.symm
  conv => rhs; rw [e, mul_add, mul_mul, h, mul_o, add_o]

theorem unit {d : Nat} (h0 : 0 < d) (hd : d < Q) : ∃ u, u * d % Q = 1 := by
  have hn : ¬ Q ∣ d := fun h => by have := Nat.eq_zero_of_dvd_of_lt h hd; omega
  refine ⟨d ^ (Q - 2), ?_⟩
  rw [← Nat.pow_succ, show (Q - 2).succ = Q - 1 by decide]
  exact Ec.fermat (p := Q) Ec.pr_Q hn

theorem g_inj {i j : Nat} (hi : i < Q) (hj : j < Q) (h : mul i g = mul j g) : i = j := by
  have key : ∀ i j, i < j → j < Q → mul i g = mul j g → False := fun i j hij hj h => by
    have e : mul i g + mul (j - i) g = mul i g + o := by rw [← mul_add, show i + (j - i) = j by omega, add_o, h]
    have e := cancel e
    obtain ⟨u, hu⟩ := unit (d := j - i) (by omega) (by omega)
    have e2 : mul (u * (j - i)) g = o := by rw [mul_mul, e, mul_o]
    rw [← mul_mod _ Q_g, hu, mul_one] at e2
    exact g_ne e2
  rcases Nat.lt_trichotomy i j with h1 | h1 | h1
  · exact (key i j h1 hj h).elim
  · exact h1
  · exact (key j i h1 hi h.symm).elim

/-- every point is G, so many times -/
theorem all_g (a : Cp) : ∃ k, a = mul k g := by
  apply Classical.byContradiction
  intro hno
  have hno : ∀ k, a ≠ mul k g := fun k h => hno ⟨k, h⟩
  -- what a number leads to
  let F : Nat → Cp := fun i => (if i / Q = 0 then o else if i / Q = 1 then a else neg a) + mul (i % Q) g
  have back : ∀ (x : Cp) (i j : Nat), i < Q → x + mul i g = mul j g → x = mul (j + (Q - i)) g := fun x i j hi h => by
    rw [mul_add, ← h, assoc, ← mul_add, show i + (Q - i) = Q by omega, Q_g, add_o]
  have hQ : 0 < Q := by decide
  have hna : ∀ (i j : Nat), i < Q → j < Q → a + mul i g ≠ neg a + mul j g := fun i j hi hj h => by
    have e1 : a + a + mul i g = mul j g := by
      rw [assoc, h, ← assoc, add_neg, o_add]
    have e2 := back _ _ _ hi e1
    generalize j + (Q - i) = m at e2
    -- half of it
    have e3 : (a + mul ((Q - 1) / 2 * m) g) + (a + mul ((Q - 1) / 2 * m) g) = o := by
      have : a + mul ((Q - 1) / 2 * m) g + (a + mul ((Q - 1) / 2 * m) g) = (a + a) + (mul ((Q - 1) / 2 * m) g + mul ((Q - 1) / 2 * m) g) := by ac_rfl
      rw [this, e2, ← mul_add, ← mul_add, ← Nat.add_mul, show (Q - 1) / 2 + (Q - 1) / 2 = Q - 1 by decide]
      have : m + (Q - 1) * m = m * Q := by
        have h1 : Q = (Q - 1) + 1 := by decide
        conv => rhs; rw [h1, Nat.mul_add, Nat.mul_one, Nat.mul_comm m (Q - 1), Nat.add_comm]
      rw [this, mul_mul, Q_g, mul_o]
    have e4 := no_two e3
    have e5 : a + mul ((Q - 1) / 2 * m) g + mul ((Q - 1) / 2 * m * (Q - 1)) g = mul ((Q - 1) / 2 * m * (Q - 1)) g := by rw [e4, o_add]
    have e6 : a = mul ((Q - 1) / 2 * m * (Q - 1)) g := by
      rw [← e5, assoc, ← mul_add]
      generalize (Q - 1) / 2 * m = t
      have : t + t * (Q - 1) = t * Q := by
        have h1 : Q = (Q - 1) + 1 := by decide
        conv => rhs; rw [h1, Nat.mul_add, Nat.mul_one, Nat.add_comm]
      rw [this, mul_mul, Q_g, mul_o, add_o]
    exact hno _ e6
  have hinj : ∀ i j, i < 3 * Q → j < 3 * Q → F i = F j → i = j := fun i j hi hj h => by
    have ci : i / Q < 3 := Nat.div_lt_of_lt_mul (by omega)
    have cj : j / Q < 3 := Nat.div_lt_of_lt_mul (by omega)
    have mi := Nat.mod_lt i hQ
    have mj := Nat.mod_lt j hQ
    have di := Nat.div_add_mod i Q
    have dj := Nat.div_add_mod j Q
    have fin : i / Q = j / Q → i % Q = j % Q → i = j := fun h1 h2 => by rw [← di, ← dj, h1, h2]
    dsimp only [F] at h
    have t : ∀ c, c < 3 → c = 0 ∨ c = 1 ∨ c = 2 := fun c _ => by omega
    rcases t _ ci with h1 | h1 | h1 <;> rcases t _ cj with h2 | h2 | h2 <;> simp only [h1, h2, if_true, if_false, Nat.one_ne_zero, show (2 : Nat) ≠ 0 by decide, show (2 : Nat) ≠ 1 by decide] at h
    · exact fin (h1.trans h2.symm) (g_inj mi mj (cancel h))
    · rw [o_add] at h; exact absurd (back _ _ _ mj h.symm) (hno _)
    · rw [o_add] at h
      exfalso
      have e : a + mul (i % Q) g = mul (j % Q) g := by rw [h, ← assoc, add_neg, o_add]
      exact hno _ (back _ _ _ mi e)
    · rw [o_add] at h; exact absurd (back _ _ _ mi h) (hno _)
    · exact fin (h1.trans h2.symm) (g_inj mi mj (cancel h))
    · exact absurd h (hna _ _ mi mj)
    · rw [o_add] at h
      exfalso
      have e : a + mul (j % Q) g = mul (i % Q) g := by rw [← h, ← assoc, add_neg, o_add]
      exact hno _ (back _ _ _ mj e)
    · exact absurd h.symm (hna _ _ mj mi)
    · exact fin (h1.trans h2.symm) (g_inj mi mj (cancel h))
  have := pigeon (2 * P + 1) (3 * Q) (fun i => code (F i).1) (fun i _ => code_lt _) (fun i j hi hj h => hinj i j hi hj (ext (code_inj (F i).2 (F j).2 h)))
  exact absurd this (by decide)

/-- Q times any point is nothing. -/
theorem Q_mul (a : Cp) : mul Q a = o := by
  obtain ⟨k, rfl⟩ := all_g a
  rw [← mul_mul, Nat.mul_comm, mul_mul, Q_g, mul_o]
theorem mod_Q (k : Nat) (a : Cp) : mul (k % Q) a = mul k a := mul_mod k (Q_mul a)
theorem last (a : Cp) : mul (Q - 1) a = neg a := neg_of (by rw [comm, ← mul_succ]; exact Q_mul a)
end Cp

end Go.Proofs.Ytildcmggcbdhpaa
