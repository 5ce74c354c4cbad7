/- Package limb: bits and remainders. No conditions. -/
import Derived.Test.YtildcmggcbdhpaaLimbE
namespace Go.Proofs.Ytildcmggcbdhpaa
open Go.Ex Go.RowKit Lim

def shrS (x j : Nat) : Sem Value := Op.shift .shr .u64 (x : Int) .i64 (j : Int)
def shrF (d x j : Nat) : Rec := opF d (shrS x j) (U (x / 2 ^ j))
theorem shrF_ok {w0 : World} {d x j : Nat} (hj : j ≤ 64) : (shrF d x j).Ok Try.prog w0 := opF_ok fun w => by
  have e : (2 : Int) ^ j = ((2 ^ j : Nat) : Int) := by rw [Int.natCast_pow]; rfl
  unfold shrS
  rw [shift_shr _ _ _ _ (by omega) (by show (j : Int) ≤ (64 : Nat); omega), Int.toNat_natCast, e, ← Int.natCast_ediv]
  rfl

theorem and_one (x : Nat) (hx : x < B) : (.int .u64 (bits .and .u64 (x : Nat) 1) : Value) = U (x % 2) := by
  have h := u64_and_nat x 1 (by unfold B at hx; exact hx) (by decide)
  rw [Nat.and_one_is_mod] at h
  rw [show ((1 : Nat) : Int) = 1 from rfl] at h
  rw [h]

theorem wrap64 {n : Nat} (h : n < 9223372036854775808) : IntKind.i64.wrap (n : Int) = n := by
  simp [IntKind.wrap, IntKind.bits, IntKind.signed]
  omega

def qX (i : Nat) : Value := .int .i64 (IntKind.i64.wrap (Int.tdiv (i : Int) 64))
theorem qX_eq {d j : Nat} (hj : j < 64) (hd : d < 1000) : qX (64 * d + j) = I (d : Nat) := by
  unfold qX
  rw [Int.tdiv_eq_ediv_of_nonneg (by omega), show ((64 * d + j : Nat) : Int) / 64 = ((64 * d + j) / 64 : Nat) from rfl, show (64 * d + j) / 64 = d by omega, wrap64 (by omega)]
def rX (i : Nat) : Value := .int .i64 (Int.tmod (i : Int) 64)
theorem rX_eq {d j : Nat} (hj : j < 64) : rX (64 * d + j) = I (j : Nat) := by
  unfold rX
  rw [Int.tmod_eq_emod_of_nonneg (by omega), show ((64 * d + j : Nat) : Int) % 64 = ((64 * d + j) % 64 : Nat) from rfl, show (64 * d + j) % 64 = j by omega]

def bitN (a i : Nat) : Nat := a / 2 ^ i % 2

theorem digit_bit (a : Nat) {j : Nat} (hj : j < 64) : a % B / 2 ^ j % 2 = a / 2 ^ j % 2 := by
  have e : B = 2 ^ j * 2 ^ (64 - j) := by rw [← Nat.pow_add, show j + (64 - j) = 64 by omega]; rfl
  rw [e, Nat.mod_mul_right_div_self, Nat.mod_mod_of_dvd]
  exact ⟨2 ^ (63 - j), by rw [show 64 - j = (63 - j) + 1 by omega, Nat.pow_succ, Nat.mul_comm]⟩

theorem div_B (a d j : Nat) : a / B ^ d / 2 ^ j = a / 2 ^ (64 * d + j) := by
  rw [Nat.div_div_eq_div_mul, show B = 2 ^ 64 from by decide, ← Nat.pow_mul, ← Nat.pow_add]

theorem bit_d (a : Nat) {d j : Nat} (hj : j < 64) : a / B ^ d % B / 2 ^ j % 2 = bitN a (64 * d + j) := by
  rw [digit_bit _ hj, div_B]; rfl

theorem l1_eq (a : Nat) : l1 a = a / B ^ 1 % B := by rw [Nat.pow_one]; rfl
theorem l2_eq (a : Nat) : l2 a = a / B ^ 2 % B := by rw [show B ^ 2 = B * B from rfl, ← Nat.div_div_eq_div_mul]; rfl
theorem l3_eq (a : Nat) : l3 a = a / B ^ 3 % B := by rw [show B ^ 3 = B * B * B from rfl, ← Nat.div_div_eq_div_mul, ← Nat.div_div_eq_div_mul]; rfl
theorem l0_eq (a : Nat) : l0 a = a / B ^ 0 % B := by rw [Nat.pow_zero, Nat.div_one]; rfl

def ltX (i : Nat) : Value := .bool (decide ((i : Int) < 0))
def gtX (i : Nat) : Value := .bool (decide ((i : Int) > 255))
theorem ltX_eq (i : Nat) : ltX i = .bool false := by unfold ltX; rw [decide_eq_false (by omega)]
theorem gtX_eq {i : Nat} (h : i < 256) : gtX i = .bool false := by unfold gtX; rw [decide_eq_false (by omega)]

def bitRecs (i d j x : Nat) : List Rec := [rn 6 (ltX i) (.bool false), rn 9 (gtX i) (.bool false), rn 12 (qX i) (I (d : Nat)), rn 16 (rX i) (I (j : Nat)), shrF 17 x j, rn 18 (.int .u64 (bits .and .u64 (x / 2 ^ j : Nat) 1)) (U (x / 2 ^ j % 2))]
theorem bitRecs_ok {d j x : Nat} (w : World) (hd : d < 4) (hj : j < 64) (hx : x < B) : RecsOk w (bitRecs (64 * d + j) d j x) :=
  ⟨rn_ok (ltX_eq _), rn_ok (gtX_eq (by omega)), rn_ok (qX_eq hj (by omega)), rn_ok (rX_eq hj), shrF_ok (by omega), rn_ok (and_one _ (Nat.lt_of_le_of_lt (Nat.div_le_self _ _) hx)), trivial⟩

/-- limb.Bit -/
theorem f114_ok (a : Nat) {i : Nat} (hi : i < 256) : Pure 114 [NV a, I (i : Nat)] (U (bitN a i)) := by
  obtain ⟨d, j, hd, hj, rfl⟩ : ∃ d j, d < 4 ∧ j < 64 ∧ i = 64 * d + j := ⟨i / 64, i % 64, by omega, by omega, by omega⟩
  match d, hd with
  | 0, _ =>
    rw [← bit_d a (d := 0) hj, ← l0_eq]
    exact pure_of Try.func114 rfl 8 _ (bitRecs (64 * 0 + j) 0 j (l0 a)) _ (fun w => bitRecs_ok w (by decide) hj (l0_lt a)) (fun γ => by kernel_rfl)
  | 1, _ =>
    rw [← bit_d a (d := 1) hj, ← l1_eq]
    exact pure_of Try.func114 rfl 8 _ (bitRecs (64 * 1 + j) 1 j (l1 a)) _ (fun w => bitRecs_ok w (by decide) hj (l1_lt a)) (fun γ => by kernel_rfl)
  | 2, _ =>
    rw [← bit_d a (d := 2) hj, ← l2_eq]
    exact pure_of Try.func114 rfl 8 _ (bitRecs (64 * 2 + j) 2 j (l2 a)) _ (fun w => bitRecs_ok w (by decide) hj (l2_lt a)) (fun γ => by kernel_rfl)
  | 3, _ =>
    rw [← bit_d a (d := 3) hj, ← l3_eq]
    exact pure_of Try.func114 rfl 8 _ (bitRecs (64 * 3 + j) 3 j (l3 a)) _ (fun w => bitRecs_ok w (by decide) hj (l3_lt a)) (fun γ => by kernel_rfl)

end Go.Proofs.Ytildcmggcbdhpaa
