/- The document's answers, layer 2: numbers compared, added, taken away. No conditions but that numbers are below R. -/
import Derived.Test.YtildcmggcbdhpaaCurveC
namespace Go.Proofs.Ytildcmggcbdhpaa
open Go.Ex Go.RowKit Lim

def FV (m c : Nat) : Value := .agg #[U (l0 m), U (l1 m), U (l2 m), U (l3 m), U (l0 c), U (l1 c), U (l2 c), U (l3 c)]
def CP : Nat := R - P
def CQ : Nat := R - Q
/-- wardmoteref02.Base -/
theorem f65_ok : Pure 65 [] (FV P CP) := pure_of Try.func65 rfl 8 [] [] _ (fun _ => trivial) (fun γ => by kernel_rfl)
/-- wardmoteref02.Scalars -/
theorem f45_ok : Pure 45 [] (FV Q CQ) := pure_of Try.func45 rfl 8 [] [] _ (fun _ => trivial) (fun γ => by kernel_rfl)

def neX (x y : Nat) : Value := .bool (((x : Nat) : Int) != (y : Nat))
theorem neX_eq (x y : Nat) : neX x y = .bool (decide (x ≠ y)) := by
  unfold neX
  congr 1
  rw [Bool.eq_iff_iff]
  simp
  omega
def ltN (x y : Nat) : Value := .bool (decide (((x : Nat) : Int) < (y : Nat)))
theorem ltN_eq (x y : Nat) : ltN x y = .bool (decide (x < y)) := by
  unfold ltN
  congr 1
  rw [Bool.eq_iff_iff]
  simp

theorem four {a : Nat} (h : a < R) : a = l0 a + B * (l1 a + B * (l2 a + B * (l3 a + B * 0))) := (L4_val h).symm

/-- wardmoteref02.Less -/
theorem f94_ok {a b : Nat} (ha : a < R) (hb : b < R) : Pure 94 [NV a, NV b] (.bool (decide (a < b))) := by
  have ea := four ha
  have eb := four hb
  have a0 := l0_lt a; have a1 := l1_lt a; have a2 := l2_lt a; have a3 := l3_lt a
  have b0 := l0_lt b; have b1 := l1_lt b; have b2 := l2_lt b; have b3 := l3_lt b
  have hB : B = 18446744073709551616 := rfl
  rw [hB] at ea eb a0 a1 a2 a3 b0 b1 b2 b3
  by_cases h3 : l3 a = l3 b
  · by_cases h2 : l2 a = l2 b
    · by_cases h1 : l1 a = l1 b
      · by_cases h0 : l0 a = l0 b
        · rw [decide_eq_false (by omega)]
          exact pure_of Try.func94 rfl 8 _ [rn 16 (neX (l3 a) (l3 b)) (.bool false), rn 16 (neX (l2 a) (l2 b)) (.bool false), rn 16 (neX (l1 a) (l1 b)) (.bool false), rn 16 (neX (l0 a) (l0 b)) (.bool false)] _
            (fun _ => ⟨rn_ok (by rw [neX_eq]; simp [h3]), rn_ok (by rw [neX_eq]; simp [h2]), rn_ok (by rw [neX_eq]; simp [h1]), rn_ok (by rw [neX_eq]; simp [h0]), trivial⟩) (fun γ => by kernel_rfl)
        · have e : decide (a < b) = decide (l0 a < l0 b) := by rw [Bool.eq_iff_iff]; simp only [decide_eq_true_eq]; omega
          rw [e]
          exact pure_of Try.func94 rfl 8 _ [rn 16 (neX (l3 a) (l3 b)) (.bool false), rn 16 (neX (l2 a) (l2 b)) (.bool false), rn 16 (neX (l1 a) (l1 b)) (.bool false), rn 16 (neX (l0 a) (l0 b)) (.bool true), rn 23 (ltN (l0 a) (l0 b)) (.bool (decide (l0 a < l0 b)))] _
            (fun _ => ⟨rn_ok (by rw [neX_eq]; simp [h3]), rn_ok (by rw [neX_eq]; simp [h2]), rn_ok (by rw [neX_eq]; simp [h1]), rn_ok (by rw [neX_eq]; simp [h0]), rn_ok (ltN_eq _ _), trivial⟩) (fun γ => by kernel_rfl)
      · have e : decide (a < b) = decide (l1 a < l1 b) := by rw [Bool.eq_iff_iff]; simp only [decide_eq_true_eq]; omega
        rw [e]
        exact pure_of Try.func94 rfl 8 _ [rn 16 (neX (l3 a) (l3 b)) (.bool false), rn 16 (neX (l2 a) (l2 b)) (.bool false), rn 16 (neX (l1 a) (l1 b)) (.bool true), rn 23 (ltN (l1 a) (l1 b)) (.bool (decide (l1 a < l1 b)))] _
          (fun _ => ⟨rn_ok (by rw [neX_eq]; simp [h3]), rn_ok (by rw [neX_eq]; simp [h2]), rn_ok (by rw [neX_eq]; simp [h1]), rn_ok (ltN_eq _ _), trivial⟩) (fun γ => by kernel_rfl)
    · have e : decide (a < b) = decide (l2 a < l2 b) := by rw [Bool.eq_iff_iff]; simp only [decide_eq_true_eq]; omega
      rw [e]
      exact pure_of Try.func94 rfl 8 _ [rn 16 (neX (l3 a) (l3 b)) (.bool false), rn 16 (neX (l2 a) (l2 b)) (.bool true), rn 23 (ltN (l2 a) (l2 b)) (.bool (decide (l2 a < l2 b)))] _
        (fun _ => ⟨rn_ok (by rw [neX_eq]; simp [h3]), rn_ok (by rw [neX_eq]; simp [h2]), rn_ok (ltN_eq _ _), trivial⟩) (fun γ => by kernel_rfl)
  · have e : decide (a < b) = decide (l3 a < l3 b) := by rw [Bool.eq_iff_iff]; simp only [decide_eq_true_eq]; omega
    rw [e]
    exact pure_of Try.func94 rfl 8 _ [rn 16 (neX (l3 a) (l3 b)) (.bool true), rn 23 (ltN (l3 a) (l3 b)) (.bool (decide (l3 a < l3 b)))] _
      (fun _ => ⟨rn_ok (by rw [neX_eq]; simp [h3]), rn_ok (ltN_eq _ _), trivial⟩) (fun γ => by kernel_rfl)

/-- (Field).Has -/
theorem f46_ok {m c a : Nat} (hm : m < R) (ha : a < R) : Pure 46 [FV m c, NV a] (.bool (decide (a < m))) :=
  pure_of Try.func46 rfl 8 _ [pc 94 [NV a, NV m] (.bool (decide (a < m)))] _ (fun _ => ⟨pc_ok (f94_ok ha hm), trivial⟩) (fun γ => by kernel_rfl)

/-- wardmoteref02.Plus -/
def c1X (c : Nat) : Value := .bool (((c : Nat) : Int) == 1)
theorem f112_raw (a b : Nat) (q : Bool) (hq : decide ((addc (L4 a) (L4 b) 0).2 = 1) = q) : Pure 112 [NV a, NV b] (.tuple #[aggU (addc (L4 a) (L4 b) 0).1, .bool q]) :=
  pure_of Try.func112 rfl 8 _ (addRecs 23 (L4 a) (L4 b) 0 ++ [rn 32 (c1X (addc (L4 a) (L4 b) 0).2) (.bool q)]) _ (fun w => (addRecs_ok 23 w _ _ 0 (L4_dig a) (L4_dig b) (by omega)).append ⟨rn_ok (by
    unfold c1X
    rw [← hq]
    congr 1
    rw [Bool.eq_iff_iff]
    simp
    omega), trivial⟩) (fun γ => by kernel_rfl)
theorem f112_ok {a b : Nat} (ha : a < R) (hb : b < R) : Pure 112 [NV a, NV b] (.tuple #[NV ((a + b) % R), .bool (decide (R ≤ a + b))]) := by
  have h := f112_raw a b (decide (R ≤ a + b)) (by
    rw [(add_val ha hb).2, Bool.eq_iff_iff]
    simp only [decide_eq_true_eq]
    unfold R at *
    omega)
  rw [(add_val ha hb).1] at h
  exact h
/-- wardmoteref02.Minus -/
theorem f113_ok {a b : Nat} (ha : a < R) (hb : b < R) : Pure 113 [NV a, NV b] (NV ((a + R - b) % R)) := by
  rw [← (sub_val ha hb).1]
  exact pure_of Try.func113 rfl 8 _ (subRecs 22 (L4 a) (L4 b) 0) _ (fun w => subRecs_ok 22 w _ _ 0 (by omega)) (fun γ => by kernel_rfl)

/-- wardmoteref02.Zero -/
theorem f64_ok {a : Nat} (ha : a < R) : Pure 64 [NV a] (.bool (decide (a = 0))) := by
  have ea := four ha
  have hB : B = 18446744073709551616 := rfl
  rw [hB] at ea
  by_cases h0 : l0 a = 0
  · by_cases h1 : l1 a = 0
    · by_cases h2 : l2 a = 0
      · by_cases h3 : l3 a = 0
        · rw [decide_eq_true (by omega)]
          exact pure_of Try.func64 rfl 8 _ [rn 5 (eqX (l0 a)) (.bool true), rn 9 (eqX (l1 a)) (.bool true), rn 14 (eqX (l2 a)) (.bool true), rn 19 (eqX (l3 a)) (.bool true)] _
            (fun _ => ⟨rn_ok (by rw [h0]; rfl), rn_ok (by rw [h1]; rfl), rn_ok (by rw [h2]; rfl), rn_ok (by rw [h3]; rfl), trivial⟩) (fun γ => by kernel_rfl)
        · rw [decide_eq_false (by intro h; subst h; exact h3 rfl)]
          exact pure_of Try.func64 rfl 8 _ [rn 5 (eqX (l0 a)) (.bool true), rn 9 (eqX (l1 a)) (.bool true), rn 14 (eqX (l2 a)) (.bool true), rn 19 (eqX (l3 a)) (.bool false)] _
            (fun _ => ⟨rn_ok (by rw [h0]; rfl), rn_ok (by rw [h1]; rfl), rn_ok (by rw [h2]; rfl), rn_ok (eqX_false h3), trivial⟩) (fun γ => by kernel_rfl)
      · rw [decide_eq_false (by intro h; subst h; exact h2 rfl)]
        exact pure_of Try.func64 rfl 8 _ [rn 5 (eqX (l0 a)) (.bool true), rn 9 (eqX (l1 a)) (.bool true), rn 14 (eqX (l2 a)) (.bool false)] _
          (fun _ => ⟨rn_ok (by rw [h0]; rfl), rn_ok (by rw [h1]; rfl), rn_ok (eqX_false h2), trivial⟩) (fun γ => by kernel_rfl)
    · rw [decide_eq_false (by intro h; subst h; exact h1 rfl)]
      exact pure_of Try.func64 rfl 8 _ [rn 5 (eqX (l0 a)) (.bool true), rn 9 (eqX (l1 a)) (.bool false)] _
        (fun _ => ⟨rn_ok (by rw [h0]; rfl), rn_ok (eqX_false h1), trivial⟩) (fun γ => by kernel_rfl)
  · rw [decide_eq_false (by intro h; subst h; exact h0 rfl)]
    exact pure_of Try.func64 rfl 8 _ [rn 5 (eqX (l0 a)) (.bool false)] _ (fun _ => ⟨rn_ok (eqX_false h0), trivial⟩) (fun γ => by kernel_rfl)

/-- (Field).Add -/
theorem f109_ok {m c a b : Nat} (hm : m < R) (ha : a < m) (hb : b < m) : Pure 109 [FV m c, NV a, NV b] (NV ((a + b) % m)) := by
  have hR : R = 115792089237316195423570985008687907853269984665640564039457584007913129639936 := rfl
  have h1 := f112_ok (a := a) (b := b) (by omega) (by omega)
  by_cases ho : R ≤ a + b
  · rw [decide_eq_true ho] at h1
    have h3 := f113_ok (a := (a + b) % R) (b := m) (Nat.mod_lt _ (by decide)) hm
    have e : ((a + b) % R + R - m) % R = (a + b) % m := by
      rw [Nat.mod_eq_sub_mod ho, Nat.mod_eq_of_lt (a := a + b - R) (by omega), Nat.mod_eq_sub_mod (a := a + b) (b := m) (by omega), Nat.mod_eq_of_lt (a := a + b - m) (by omega), Nat.mod_eq_of_lt (by omega)]
      omega
    rw [e] at h3
    exact pure_of Try.func109 rfl 8 _ [pc 112 [NV a, NV b] (.tuple #[NV ((a + b) % R), .bool true]), pc 113 [NV ((a + b) % R), NV m] (NV ((a + b) % m))] _ (fun _ => ⟨pc_ok h1, pc_ok h3, trivial⟩) (fun γ => by kernel_rfl)
  · rw [decide_eq_false ho] at h1
    have h2 := f94_ok (a := (a + b) % R) (b := m) (Nat.mod_lt _ (by decide)) hm
    by_cases hl : a + b < m
    · rw [Nat.mod_eq_of_lt (a := a + b) (b := R) (by omega)] at h1 h2
      rw [decide_eq_true hl] at h2
      rw [Nat.mod_eq_of_lt hl]
      exact pure_of Try.func109 rfl 8 _ [pc 112 [NV a, NV b] (.tuple #[NV (a + b), .bool false]), pc 94 [NV (a + b), NV m] (.bool true)] _ (fun _ => ⟨pc_ok h1, pc_ok h2, trivial⟩) (fun γ => by kernel_rfl)
    · rw [Nat.mod_eq_of_lt (a := a + b) (b := R) (by omega)] at h1 h2
      rw [decide_eq_false hl] at h2
      have h3 := f113_ok (a := a + b) (b := m) (by omega) hm
      have e : (a + b + R - m) % R = (a + b) % m := by
        rw [Nat.mod_eq_sub_mod (a := a + b) (b := m) (by omega), Nat.mod_eq_of_lt (a := a + b - m) (by omega), show a + b + R - m = (a + b - m) + R by omega, Nat.add_mod_right, Nat.mod_eq_of_lt (by omega)]
      rw [e] at h3
      exact pure_of Try.func109 rfl 8 _ [pc 112 [NV a, NV b] (.tuple #[NV (a + b), .bool false]), pc 94 [NV (a + b), NV m] (.bool false), pc 113 [NV (a + b), NV m] (NV ((a + b) % m))] _ (fun _ => ⟨pc_ok h1, pc_ok h2, pc_ok h3, trivial⟩) (fun γ => by kernel_rfl)

/-- (Field).Sub -/
theorem f70_ok {m c a b : Nat} (hm : m < R) (ha : a < m) (hb : b < m) : Pure 70 [FV m c, NV a, NV b] (NV ((a + m - b) % m)) := by
  have hR : R = 115792089237316195423570985008687907853269984665640564039457584007913129639936 := rfl
  have h1 := f94_ok (a := a) (b := b) (by omega) (by omega)
  by_cases hl : a < b
  · rw [decide_eq_true hl] at h1
    have h2 := f112_ok (a := a) (b := m) (by omega) hm
    have h3 := f113_ok (a := (a + m) % R) (b := b) (Nat.mod_lt _ (by decide)) (by omega)
    have e : ((a + m) % R + R - b) % R = (a + m - b) % m := by
      rw [Nat.mod_eq_of_lt (a := a + m - b) (b := m) (by omega)]
      by_cases h : a + m < R
      · rw [Nat.mod_eq_of_lt h, show a + m + R - b = (a + m - b) + R by omega, Nat.add_mod_right, Nat.mod_eq_of_lt (by omega)]
      · rw [Nat.mod_eq_sub_mod (a := a + m) (by omega), Nat.mod_eq_of_lt (a := a + m - R) (by omega), show a + m - R + R - b = a + m - b by omega, Nat.mod_eq_of_lt (by omega)]
    rw [e] at h3
    exact pure_of Try.func70 rfl 8 _ [pc 94 [NV a, NV b] (.bool true), pc 112 [NV a, NV m] (.tuple #[NV ((a + m) % R), .bool (decide (R ≤ a + m))]), pc 113 [NV ((a + m) % R), NV b] (NV ((a + m - b) % m))] _ (fun _ => ⟨pc_ok h1, pc_ok h2, pc_ok h3, trivial⟩) (fun γ => by kernel_rfl)
  · rw [decide_eq_false hl] at h1
    have h3 := f113_ok (a := a) (b := b) (by omega) (by omega)
    have e : (a + R - b) % R = (a + m - b) % m := by
      rw [show a + R - b = (a - b) + R by omega, Nat.add_mod_right, Nat.mod_eq_of_lt (by omega), show a + m - b = (a - b) + m by omega, Nat.add_mod_right, Nat.mod_eq_of_lt (by omega)]
    rw [e] at h3
    exact pure_of Try.func70 rfl 8 _ [pc 94 [NV a, NV b] (.bool false), pc 113 [NV a, NV b] (NV ((a + m - b) % m))] _ (fun _ => ⟨pc_ok h1, pc_ok h3, trivial⟩) (fun γ => by kernel_rfl)

end Go.Proofs.Ytildcmggcbdhpaa
