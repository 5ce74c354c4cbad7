/- Package limb: the remainder. No conditions but that the number that divides is below R and not 0. -/
import Derived.Test.YtildcmggcbdhpaaLimbF
namespace Go.Proofs.Ytildcmggcbdhpaa
open Go.Ex Go.RowKit Lim

/-- the loops of a function, in the text's order -/
def loopsOf : Code → List Code
  | .seq a b => loopsOf a ++ loopsOf b
  | .cond _ a b => loopsOf a ++ loopsOf b
  | .block _ c => loopsOf c
  | .loop c => c :: loopsOf c
  | _ => []

def look {α : Type} (i : Nat) : List (Nat × α) → Option α
  | [] => none
  | (k, v) :: l => bif Nat.beq k i then some v else look i l
def frOf (n : Nat) (l : List (Nat × Value)) : List (Option Value) := (List.range n).map fun i => look i l
def tgOf (n : Nat) (l : List (Nat × Tag)) : List Tag := (List.range n).map fun i => (look i l).getD .no

def wideE (g w : Nat) (own : Bool) : Ent := ⟨g, [U (l0 w), U (l1 w), U (l2 w), U (l3 w), U (l4 w), U (l5 w), U (l6 w), U (l7 w)], [], 116, own⟩

/-- a number, less one -/
def V8 : Nat → Value
  | 0 => I (-1)
  | n + 1 => I (n : Nat)

def modL (w m : Nat) (gl : List Nat) (k : Nat) : St :=
  ⟨frOf 67 [(2, PT (gl.getD 0 0)), (3, PT (gl.getD 1 0)), (4, PT (gl.getD 2 0)), (6, PT (gl.getD 3 0)), (8, V8 k)], tgOf 67 [(2, .at_ 0), (3, .at_ 1), (4, .at_ 2), (6, .at_ 3)],
    [wideE (gl.getD 0 0) w true, numE (gl.getD 1 0) m true, numE (gl.getD 2 0) 0 true, numE (gl.getD 3 0) (w / 2 ^ k % m) true]⟩
noncomputable def modC : Code := (loopsOf (Fx Try.f115)).getD 1 .skip

def geX (n : Nat) : Value := .bool (decide ((n : Int) ≥ 0))
theorem geX_eq (n : Nat) : geX n = .bool true := by unfold geX; rw [decide_eq_true (by omega)]
def decX (n : Nat) : Value := .int .i64 (IntKind.i64.wrap ((n : Int) - 1))
theorem decX_eq {n : Nat} (h : n < 1000) : decX n = V8 n := by
  unfold decX
  cases n with
  | zero => rfl
  | succ n => rw [show ((n + 1 : Nat) : Int) - 1 = (n : Nat) by omega, wrap64 (by omega)]; rfl

def modRecs (m r n d j x s b c y t r' over : Nat) : List Rec :=
  [rn 29 (geX n) (.bool true), rn 34 (.int .u64 (((l3 r : Nat) : Int).fdiv (2 ^ 63))) (U over), pc 117 [NV r, NV r] (.tuple #[NV s, U over]), rn 44 (qX n) (I (d : Nat)), rn 48 (rX n) (I (j : Nat)), shrF 49 x j,
    rn 50 (.int .u64 (bits .and .u64 (x / 2 ^ j : Nat) 1)) (U b), rn 51 (.int .u64 (bits .or .u64 (l0 s : Nat) (b : Nat))) (U (l0 (s + b))),
    pc 118 [.agg #[U (l0 (s + b)), U (l1 s), U (l2 s), U (l3 s)], NV m] (.tuple #[NV y, U c]), rn 62 (.int .u64 (bits .or .u64 (over : Nat) (IntKind.u64.wrap (1 - ((c : Nat) : Int))))) (U t),
    pc 119 [U t, NV y, .agg #[U (l0 (s + b)), U (l1 s), U (l2 s), U (l3 s)]] (NV r'), rn 31 (decX n) (V8 n)]


theorem l0_add {s b : Nat} (hs : s % 2 = 0) (hb : b ≤ 1) : l0 (s + b) = l0 s + b ∧ l1 (s + b) = l1 s ∧ l2 (s + b) = l2 s ∧ l3 (s + b) = l3 s := by
  have hB : B = 18446744073709551616 := rfl
  have e : (s + b) / B = s / B := by rw [hB]; omega
  refine ⟨?_, ?_, ?_, ?_⟩
  · unfold l0; rw [hB]; omega
  · unfold l1; rw [e]
  · unfold l2; rw [e]
  · unfold l3; rw [e]

theorem or_bit {x b : Nat} (hx : x < B) (h2 : x % 2 = 0) (hb : b ≤ 1) : (.int .u64 (bits .or .u64 (x : Nat) (b : Nat)) : Value) = U (x + b) := by
  have e := u64_or_nat x b (by unfold B at hx; exact hx) (by omega)
  rw [e]
  have : x ||| b = x + b := by
    have h := Nat.two_pow_add_eq_or_of_lt (i := 1) (b := b) (by omega) (x / 2)
    rw [Nat.pow_one, show 2 * (x / 2) = x by omega] at h
    exact h.symm
  rw [this]

theorem shr63 {r : Nat} (hr : r < R) : (.int .u64 (((l3 r : Nat) : Int).fdiv (2 ^ 63)) : Value) = U ((r + r) / R) := by
  have h3 := l3_lt r
  rw [Int.fdiv_eq_ediv_of_nonneg _ (by decide), show ((2 : Int) ^ 63) = ((2 ^ 63 : Nat) : Int) from rfl, ← Int.natCast_ediv]
  show U (l3 r / 2 ^ 63) = U _
  refine congrArg U ?_
  have e : l3 r = r / (B * B * B) := by
    unfold l3
    rw [Nat.div_div_eq_div_mul, Nat.div_div_eq_div_mul, ← Nat.mul_assoc, Nat.mod_eq_of_lt]
    apply Nat.div_lt_of_lt_mul
    rw [show B * B * B * B = R from by decide]
    exact hr
  rw [e, Nat.div_div_eq_div_mul, show B * B * B * 2 ^ 63 = 57896044618658097711785492504343953926634992332820282019728792003956564819968 from by decide]
  unfold R at *
  omega

theorem mod_arith {m r s b over y c t r' : Nat} (hm : m < R) (hr : r < m) (hb : b ≤ 1) (hs : s = (r + r) % R) (ho : over = (r + r) / R) (hy : y = (s + b + R - m) % R) (hc : c = if s + b < m then 1 else 0) (hr' : r' = (2 * r + b) % m) :
    ((over = 0 ∧ c = 0 ∧ t = 1) ∨ (over = 0 ∧ c = 1 ∧ t = 0) ∨ (over = 1 ∧ c = 1 ∧ t = 1) ∨ (over = 1 ∧ c = 0 ∧ t = 1)) ∧ ((t = 1 ∧ r' = y) ∨ (t = 0 ∧ r' = s + b)) ↔ ((over = 0 ∧ c = 0 ∧ t = 1) ∨ (over = 0 ∧ c = 1 ∧ t = 0) ∨ (over = 1 ∧ c = 1 ∧ t = 1) ∨ (over = 1 ∧ c = 0 ∧ t = 1)) := by
  refine ⟨fun h => h.1, fun h => ⟨h, ?_⟩⟩
  have hR : R = 115792089237316195423570985008687907853269984665640564039457584007913129639936 := rfl
  by_cases h1 : 2 * r + b < m
  · rw [Nat.mod_eq_of_lt h1] at hr'
    have : ¬ r + r ≥ R := by omega
    have e1 : s = r + r := by rw [hs, Nat.mod_eq_of_lt (by omega)]
    have e2 : over = 0 := by rw [ho, Nat.div_eq_of_lt (by omega)]
    rw [if_pos (by omega)] at hc
    right
    omega
  · have e3 : r' = 2 * r + b - m := by rw [hr', Nat.mod_eq_sub_mod (by omega), Nat.mod_eq_of_lt (by omega)]
    by_cases h2 : r + r < R
    · have e1 : s = r + r := by rw [hs, Nat.mod_eq_of_lt h2]
      have e2 : over = 0 := by rw [ho, Nat.div_eq_of_lt h2]
      rw [if_neg (by omega)] at hc
      left
      refine ⟨by omega, ?_⟩
      rw [e3, hy, e1, show r + r + b + R - m = (r + r + b - m) + R by omega, Nat.add_mod_right]
      by_cases h4 : r + r + b - m < R
      · rw [Nat.mod_eq_of_lt h4]; omega
      · omega
    · have e1 : s = r + r - R := by rw [hs, Nat.mod_eq_sub_mod (by omega), Nat.mod_eq_of_lt (by omega)]
      have e2 : over = 1 := by rw [ho]; apply Nat.div_eq_of_lt_le <;> omega
      left
      refine ⟨by omega, ?_⟩
      rw [e3, hy, e1, Nat.mod_eq_of_lt (by omega)]
      omega

theorem modRecs_ok {m r d j x b : Nat} (w0 : World) (hm : m < R) (hr : r < m) (hd : d < 8) (hj : j < 64) (hx : x < B) (hb : b = x / 2 ^ j % 2) :
    ∃ s c y t over, RecsOk w0 (modRecs m r (64 * d + j) d j x s b c y t ((2 * r + b) % m) over) := by
  have hb1 : b ≤ 1 := by omega
  have hrR : r < R := by omega
  have hs2 : (r + r) % R % 2 = 0 := by unfold R; omega
  obtain ⟨k0, k1, k2, k3⟩ := l0_add hs2 hb1
  have hsb : (r + r) % R + b < R := by
    have : (r + r) % R < R := Nat.mod_lt _ (by decide)
    unfold R at *
    omega
  have eN : (.agg #[U (l0 ((r + r) % R + b)), U (l1 ((r + r) % R)), U (l2 ((r + r) % R)), U (l3 ((r + r) % R))] : Value) = NV ((r + r) % R + b) := by
    unfold NV; rw [k1, k2, k3]
  have hor : (.int .u64 (bits .or .u64 (l0 ((r + r) % R) : Nat) (b : Nat)) : Value) = U (l0 ((r + r) % R + b)) := by
    rw [or_bit (l0_lt _) (by unfold l0 B; omega) hb1, k0]
  have hov : (r + r) / R ≤ 1 := by
    have : (r + r) / R < 2 := Nat.div_lt_of_lt_mul (by omega)
    omega
  have hc01 : ∀ p : Prop, [Decidable p] → (if p then 1 else 0 : Nat) = 0 ∨ (if p then 1 else 0 : Nat) = 1 := fun p _ => by split <;> simp
  have hcc := hc01 ((r + r) % R + b < m)
  have hsel : ∃ t, (((r + r) / R = 0 ∧ (if (r + r) % R + b < m then 1 else 0) = 0 ∧ t = 1) ∨ ((r + r) / R = 0 ∧ (if (r + r) % R + b < m then 1 else 0) = 1 ∧ t = 0) ∨ ((r + r) / R = 1 ∧ (if (r + r) % R + b < m then 1 else 0) = 1 ∧ t = 1) ∨ ((r + r) / R = 1 ∧ (if (r + r) % R + b < m then 1 else 0) = 0 ∧ t = 1)) := by
    rcases hcc with h | h <;> rw [h] <;> (have : (r + r) / R = 0 ∨ (r + r) / R = 1 := Nat.le_one_iff_eq_zero_or_eq_one.1 hov) <;> rcases this with h' | h' <;> rw [h'] <;> simp
  obtain ⟨t, ht⟩ := hsel
  have hfin := ((mod_arith (t := t) hm hr hb1 rfl rfl rfl rfl rfl).2 ht).2
  refine ⟨(r + r) % R, _, _, t, (r + r) / R, rn_ok (geX_eq _), rn_ok (shr63 hrR), pc_ok (f117_ok hrR hrR), rn_ok (qX_eq hj (by omega)), rn_ok (rX_eq hj), shrF_ok (by omega), rn_ok (by rw [hb]; exact and_one _ (Nat.lt_of_le_of_lt (Nat.div_le_self _ _) hx)), rn_ok hor,
    pc_ok (by rw [eN]; exact f118_ok hsb hm), rn_ok (or_sel ht), pc_ok ?_, rn_ok (decX_eq (by omega)), trivial⟩
  rw [eN]
  rcases hfin with ⟨rfl, h⟩ | ⟨rfl, h⟩
  · rw [h]; exact f119_one _ _
  · rw [h]; exact f119_zero _ _

end Go.Proofs.Ytildcmggcbdhpaa
