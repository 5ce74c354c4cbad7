/- The document's answers, layer 2: remainders, products in the field, powers, inverses. No conditions but that numbers are below the modulus. -/
import Derived.Test.YtildcmggcbdhpaaRefD
namespace Go.Proofs.Ytildcmggcbdhpaa
open Go.Ex Go.RowKit Lim

/-- a prime, and what 2^256 is by it -/
structure Fc (m c : Nat) : Prop where
  sum : m + c = R
  small : c < 2 ^ 130
  lt : m < R
theorem fcP : Fc P CP := ⟨by decide, by decide, by decide⟩
theorem fcQ : Fc Q CQ := ⟨by decide, by decide, by decide⟩

structure RdInv (c w : Nat) (i n h : Nat) : Prop where
  le : i ≤ 4
  lt : n < bnd i
  hlt : h < R * R
  eq : h / R = n / R
  fin : redN c (4 - i) n = redN c 4 w

noncomputable def rdRec (m c w : Nat) : Rec := .code rdC (fun gl => rdS m c w gl (I ((0 : Nat) : Int)) w w) (fun gl => rdP m c w gl (redN c 4 w)) (.exit 0)
theorem rdRec_ok {m c w : Nat} {w0 : World} (hf : Fc m c) (hw : w < R * R) : (rdRec m c w).Ok Try.prog w0 := by
  have hcR : c < R := Nat.lt_of_lt_of_le hf.small (by decide)
  have h0 : RdInv c w 0 w w := ⟨Nat.zero_le _, hw, hw, Eq.refl _, by rw [Nat.sub_zero]⟩
  refine Rec.ok_code follows (fun gl (k : Nat × Nat × Nat) => rdS m c w gl (I (k.1 : Nat)) k.2.1 k.2.2) (fun k => RdInv c w k.1 k.2.1 k.2.2) (fun k => 4 - k.1) (.exit 0) (fun gl => rdP m c w gl (redN c 4 w)) (fun h => by cases h) (0, w, w)
    h0 (fun gl k hk => ?_)
  obtain ⟨i, n, h⟩ := k
  obtain ⟨hle, hlt, hhl, heq, hfin⟩ := hk
  dsimp only at *
  by_cases hz : n / R = 0
  · have hnR : n < R := by
      rcases Nat.lt_or_ge n R with h | h
      · exact h
      · have := Nat.div_pos h (by decide : 0 < R)
        omega
    rw [redN_lt _ hnR] at hfin
    rw [← hfin]
    have hv := hiV_eq h
    rw [heq, hz] at hv
    have hi : l4 h = 0 ∧ l5 h = 0 ∧ l6 h = 0 ∧ l7 h = 0 := by
      have e' : h / R = h / B / B / B / B := by rw [Nat.div_div_eq_div_mul, Nat.div_div_eq_div_mul, Nat.div_div_eq_div_mul]; rfl
      rw [heq, hz] at e'
      unfold l4 l5 l6 l7
      rw [← e']
      exact ⟨rfl, rfl, rfl, rfl⟩
    obtain ⟨e4, e5, e6, e7⟩ := hi
    exact .stop 8 (zRecs i h) (RecsOk.all ⟨rn_ok (lt8X_eq (by omega)), rn_ok (by rw [e4]; rfl), rn_ok (by rw [e5]; rfl), rn_ok (by rw [e6]; rfl), rn_ok (by rw [e7]; rfl), trivial⟩) (fun γ => rd_stop m c w gl i n h γ)
  · have hi4 : i < 4 := by
      rcases Nat.lt_or_ge i 4 with h | h
      · exact h
      · have : i = 4 := by omega
        subst this
        exact absurd (Nat.div_eq_of_lt hlt) hz
    obtain ⟨j, hj, hnz⟩ := nzRecs_ok (w := w0) hhl (by rw [heq]; exact hz)
    have hstep := bnd_step hf.small hlt hi4
    have hn' := Nat.lt_of_lt_of_le hstep (bnd_le (i + 1))
    have hfin' : redN c (4 - (i + 1)) (n % R + c * (n / R)) = redN c 4 w := by
      rw [← hfin, show 4 - i = (4 - (i + 1)) + 1 by omega]; rfl
    have hnR : n < R * R := Nat.lt_of_lt_of_le hlt (bnd_le i)
    have hq : n / R < R := Nat.div_lt_of_lt_mul hnR
    have h110 := f110_ok hcR hq
    rw [← heq, ← hiV_eq h, heq] at h110
    have h112 := f112_ok (a := n % R) (b := c * (n / R) % R) (Nat.mod_lt _ (by decide)) (Nat.mod_lt _ (by decide))
    rw [Nat.add_mod_mod, NV_mod, NV_mod, NV_mod] at h112
    have hp : c * (n / R) < R * R := Nat.mul_lt_mul'' hcR hq
    have hR0 : 0 < R := by decide
    have hsum : (n % R + c * (n / R)) / R = c * (n / R) / R + (if R ≤ n % R + c * (n / R) % R then 1 else 0) := by
      have a1 := Nat.div_add_mod (c * (n / R)) R
      have a2 : n % R < R := Nat.mod_lt _ hR0
      have a3 : c * (n / R) % R < R := Nat.mod_lt _ hR0
      generalize c * (n / R) / R = u at *
      generalize c * (n / R) % R = v at *
      rw [← a1]
      split
      · rw [show n % R + (R * u + v) = (n % R + v - R) + R * (u + 1) by rw [Nat.mul_add]; omega, Nat.add_mul_div_left _ _ hR0, Nat.div_eq_of_lt (by omega)]
        omega
      · rw [show n % R + (R * u + v) = (n % R + v) + R * u by omega, Nat.add_mul_div_left _ _ hR0, Nat.div_eq_of_lt (by omega)]
        omega
    by_cases ho : R ≤ n % R + c * (n / R) % R
    · rw [decide_eq_true ho] at h112
      rw [if_pos ho] at hsum
      have hu : c * (n / R) / R < R := Nat.div_lt_of_lt_mul hp
      have h1 := f112_ok (a := c * (n / R) / R) (b := 1) hu (by decide)
      rw [NV_mod, ← hsum, ← hiV_eq, ← hiV_eq] at h1
      refine .go (i + 1, n % R + c * (n / R), n % R + c * (n / R)) ⟨by omega, hstep, hn', rfl, hfin'⟩ (by dsimp only; omega) 8 (rn 32 (lt8X i) (.bool true) :: (nzRecs h j ++ goRecs1 c i n h (n % R + c * (n / R)) (c * (n / R)) (decide (R ≤ (n % R + c * (n / R)) / R)))) ?_ (fun γ => rd_go1 m c w gl i n h (n % R + c * (n / R)) (c * (n / R)) (decide (R ≤ (n % R + c * (n / R)) / R)) γ j hj)
      exact RecsOk.all ⟨rn_ok (lt8X_eq (by omega)), hnz.append ⟨pc_ok h110, pc_ok h112, pc_ok h1, rn_ok (incX_eq (by omega)), trivial⟩⟩
    · rw [decide_eq_false ho] at h112
      rw [if_neg ho, Nat.add_zero] at hsum
      refine .go (i + 1, n % R + c * (n / R), c * (n / R)) ⟨by omega, hstep, hp, hsum.symm, hfin'⟩ (by dsimp only; omega) 8 (rn 32 (lt8X i) (.bool true) :: (nzRecs h j ++ goRecs c i n h (n % R + c * (n / R)) (c * (n / R)))) ?_ (fun γ => rd_go0 m c w gl i n h (n % R + c * (n / R)) (c * (n / R)) γ j hj)
      exact RecsOk.all ⟨rn_ok (lt8X_eq (by omega)), hnz.append ⟨pc_ok h110, pc_ok h112, rn_ok (incX_eq (by omega)), trivial⟩⟩

/-- (Field).Reduce -/
theorem f76_ok {m c w : Nat} (hf : Fc m c) (hw : w < R * R) : Pure 76 [FV m c, WV w] (NV (w % m)) := by
  have hR : R = 115792089237316195423570985008687907853269984665640564039457584007913129639936 := rfl
  have hs := hf.sum
  have hc := hf.small
  have hm := hf.lt
  have hfin : redN c 4 w < R := by
    have s1 := bnd_step (i := 0) hc hw (by decide)
    have s2 := bnd_step (i := 1) hc s1 (by decide)
    have s3 := bnd_step (i := 2) hc s2 (by decide)
    exact bnd_step (i := 3) hc s3 (by decide)
  have hmod := redN_mod hs 4 w
  generalize hN : redN c 4 w = n at *
  have hrec := fun w0 : World => rdRec_ok (w := w) (w0 := w0) hf hw
  unfold rdRec at hrec
  rw [hN] at hrec
  have h1 := f94_ok hfin hm
  by_cases hl : n < m
  · rw [decide_eq_true hl] at h1
    rw [← hmod, Nat.mod_eq_of_lt hl]
    exact pure_of Try.func76 rfl 8 [FV m c, WV w] [.code rdC (fun gl => rdS m c w gl (I ((0 : Nat) : Int)) w w) (fun gl => rdP m c w gl n) (.exit 0), pc 94 [NV n, NV m] (.bool true)] _ (fun w0 => ⟨hrec w0, pc_ok h1, trivial⟩) (fun γ => by kernel_rfl)
  · rw [decide_eq_false hl] at h1
    have h2 := f113_ok hfin hm
    have h3 := f94_ok (a := n - m) (b := m) (by omega) hm
    rw [show n + R - m = (n - m) + R by omega, Nat.add_mod_right, Nat.mod_eq_of_lt (by omega)] at h2
    have hlt : n - m < m := by rw [hR] at hs hfin; omega
    rw [decide_eq_true hlt] at h3
    rw [← hmod, Nat.mod_eq_sub_mod (by omega), Nat.mod_eq_of_lt hlt]
    exact pure_of Try.func76 rfl 8 [FV m c, WV w] [.code rdC (fun gl => rdS m c w gl (I ((0 : Nat) : Int)) w w) (fun gl => rdP m c w gl n) (.exit 0), pc 94 [NV n, NV m] (.bool false), pc 113 [NV n, NV m] (NV (n - m)), pc 94 [NV (n - m), NV m] (.bool true)] _ (fun w0 => ⟨hrec w0, pc_ok h1, pc_ok h2, pc_ok h3, trivial⟩) (fun γ => by kernel_rfl)

/-- (Field).Mul -/
theorem f66_ok {m c a b : Nat} (hf : Fc m c) (ha : a < R) (hb : b < R) : Pure 66 [FV m c, NV a, NV b] (NV (a * b % m)) :=
  pure_of Try.func66 rfl 8 _ [pc 110 [NV a, NV b] (WV (a * b)), pc 76 [FV m c, WV (a * b)] (NV (a * b % m))] _ (fun _ => ⟨pc_ok (f110_ok ha hb), pc_ok (f76_ok hf (Nat.mul_lt_mul'' ha hb)), trivial⟩) (fun γ => by kernel_rfl)

end Go.Proofs.Ytildcmggcbdhpaa
