/- The document's answers, layer 2: what is above is folded back. No conditions but that numbers are below R. -/
import Derived.Test.YtildcmggcbdhpaaRefC
namespace Go.Proofs.Ytildcmggcbdhpaa
open Go.Ex Go.RowKit Lim

def FE (g m c : Nat) (own : Bool) : Ent := ⟨g, [U (l0 m), U (l1 m), U (l2 m), U (l3 m), U (l0 c), U (l1 c), U (l2 c), U (l3 c)], [], 74, own⟩
def hiE (g n : Nat) (own : Bool) : Ent := ⟨g, [U (l4 n), U (l5 n), U (l6 n), U (l7 n)], [], 24, own⟩
def hiV (n : Nat) : Value := .agg #[U (l4 n), U (l5 n), U (l6 n), U (l7 n)]

theorem NV_mod (n : Nat) : NV (n % R) = NV n := by
  have h := digs_val [l0 n, l1 n, l2 n, l3 n] (dig4 n)
  rw [val4, ← R_eq, show [l0 n, l1 n, l2 n, l3 n].length = 4 from rfl, digs4] at h
  simp only [List.cons.injEq, and_true] at h
  obtain ⟨h0, h1, h2, h3⟩ := h
  unfold NV
  rw [h0, h1, h2, h3]
theorem hiV_eq (n : Nat) : hiV n = NV (n / R) := by
  have e : n / R = n / B / B / B / B := by rw [Nat.div_div_eq_div_mul, Nat.div_div_eq_div_mul, Nat.div_div_eq_div_mul]; rfl
  unfold hiV NV
  rw [e]
  rfl

noncomputable def rdC : Code := (loopsOf (Fx Try.f76)).getD 0 .skip
noncomputable def rdS (m c w : Nat) (gl : List Nat) (v : Value) (n h : Nat) : St :=
  ⟨frOf Try.f76.ntmps [(2, PT (gl.getD 0 0)), (3, PT (gl.getD 1 0)), (4, PT (gl.getD 2 0)), (5, PT (gl.getD 3 0)), (6, PT (gl.getD 4 0)), (7, v)],
    tgOf Try.f76.ntmps [(2, .at_ 0), (3, .at_ 1), (4, .at_ 2), (5, .at_ 3), (6, .at_ 4)],
    [FE (gl.getD 0 0) m c true, wideE (gl.getD 1 0) w true, numE (gl.getD 2 0) 0 true, numE (gl.getD 3 0) n true, hiE (gl.getD 4 0) h true]⟩
noncomputable def rdP (m c w : Nat) (gl : List Nat) (n : Nat) : St :=
  ⟨frOf Try.f76.ntmps [(2, PT (gl.getD 0 0)), (3, PT (gl.getD 1 0)), (4, PT (gl.getD 2 0)), (5, PT (gl.getD 3 0))],
    tgOf Try.f76.ntmps [(2, .at_ 0), (3, .at_ 1), (4, .at_ 2), (5, .at_ 3)],
    [FE (gl.getD 0 0) m c true, wideE (gl.getD 1 0) w true, numE (gl.getD 2 0) 0 true, numE (gl.getD 3 0) n true]⟩

def lt8X (i : Nat) : Value := .bool (decide ((i : Int) < 8))
def incX (i : Nat) : Value := .int .i64 (IntKind.i64.wrap ((i : Int) + 1))
theorem lt8X_eq {i : Nat} (h : i < 8) : lt8X i = .bool true := by unfold lt8X; rw [decide_eq_true (by omega)]
theorem incX_eq {i : Nat} (h : i < 1000) : incX i = I ((i + 1 : Nat) : Int) := by
  unfold incX
  rw [show ((i : Int) + 1) = ((i + 1 : Nat) : Int) from rfl, wrap64 (by omega)]

def nzRecs (h : Nat) : Nat → List Rec
  | 0 => [rn 37 (eqX (l4 h)) (.bool false)]
  | 1 => [rn 37 (eqX (l4 h)) (.bool true), rn 41 (eqX (l5 h)) (.bool false)]
  | 2 => [rn 37 (eqX (l4 h)) (.bool true), rn 41 (eqX (l5 h)) (.bool true), rn 46 (eqX (l6 h)) (.bool false)]
  | _ => [rn 37 (eqX (l4 h)) (.bool true), rn 41 (eqX (l5 h)) (.bool true), rn 46 (eqX (l6 h)) (.bool true), rn 51 (eqX (l7 h)) (.bool false)]
theorem nzRecs_ok {h : Nat} {w : World} (hh : h < R * R) (h0 : h / R ≠ 0) : ∃ j, j < 4 ∧ RecsOk w (nzRecs h j) := by
  have key : ¬ (l4 h = 0 ∧ l5 h = 0 ∧ l6 h = 0 ∧ l7 h = 0) := by
    rintro ⟨e4, e5, e6, e7⟩
    have e := congrArg (fun v : Value => v) (hiV_eq h)
    have hv := L4_val (n := h / R) (Nat.div_lt_of_lt_mul hh)
    have e' : h / R = h / B / B / B / B := by rw [Nat.div_div_eq_div_mul, Nat.div_div_eq_div_mul, Nat.div_div_eq_div_mul]; rfl
    have : L4 (h / R) = [l4 h, l5 h, l6 h, l7 h] := by rw [e']; rfl
    rw [this, e4, e5, e6, e7] at hv
    exact h0 hv.symm
  by_cases e4 : l4 h = 0
  · by_cases e5 : l5 h = 0
    · by_cases e6 : l6 h = 0
      · exact ⟨3, by omega, rn_ok (by rw [e4]; rfl), rn_ok (by rw [e5]; rfl), rn_ok (by rw [e6]; rfl), rn_ok (eqX_false fun e7 => key ⟨e4, e5, e6, e7⟩), trivial⟩
      · exact ⟨2, by omega, rn_ok (by rw [e4]; rfl), rn_ok (by rw [e5]; rfl), rn_ok (eqX_false e6), trivial⟩
    · exact ⟨1, by omega, rn_ok (by rw [e4]; rfl), rn_ok (eqX_false e5), trivial⟩
  · exact ⟨0, by omega, rn_ok (eqX_false e4), trivial⟩

def goRecs (c i n h n' p : Nat) : List Rec := [pc 110 [NV c, hiV h] (WV p), pc 112 [NV n, NV p] (.tuple #[NV n', .bool false]), rn 34 (incX i) (I ((i + 1 : Nat) : Int))]
def goRecs1 (c i n h n' p : Nat) (q : Bool) : List Rec := [pc 110 [NV c, hiV h] (WV p), pc 112 [NV n, NV p] (.tuple #[NV n', .bool true]), pc 112 [hiV p, NV 1] (.tuple #[hiV n', .bool q]), rn 34 (incX i) (I ((i + 1 : Nat) : Int))]

theorem rd_go0 (m c w : Nat) (gl : List Nat) (i n h n' p : Nat) (γ : Nat → Nat) : ∀ j, j < 4 →
    endL (rdS m c w gl (I ((i + 1 : Nat) : Int)) n' p) (exec Try.prog rdC ⟨rdS m c w gl (I (i : Nat)) n h, (List.range 8).map γ, rn 32 (lt8X i) (.bool true) :: (nzRecs h j ++ goRecs c i n h n' p), []⟩) =
      endR .normal (rdS m c w gl (I ((i + 1 : Nat) : Int)) n' p) (exec Try.prog rdC ⟨rdS m c w gl (I (i : Nat)) n h, (List.range 8).map γ, rn 32 (lt8X i) (.bool true) :: (nzRecs h j ++ goRecs c i n h n' p), []⟩)
  | 0, _ => by kernel_rfl
  | 1, _ => by kernel_rfl
  | 2, _ => by kernel_rfl
  | 3, _ => by kernel_rfl
theorem rd_go1 (m c w : Nat) (gl : List Nat) (i n h n' p : Nat) (q : Bool) (γ : Nat → Nat) : ∀ j, j < 4 →
    endL (rdS m c w gl (I ((i + 1 : Nat) : Int)) n' n') (exec Try.prog rdC ⟨rdS m c w gl (I (i : Nat)) n h, (List.range 8).map γ, rn 32 (lt8X i) (.bool true) :: (nzRecs h j ++ goRecs1 c i n h n' p q), []⟩) =
      endR .normal (rdS m c w gl (I ((i + 1 : Nat) : Int)) n' n') (exec Try.prog rdC ⟨rdS m c w gl (I (i : Nat)) n h, (List.range 8).map γ, rn 32 (lt8X i) (.bool true) :: (nzRecs h j ++ goRecs1 c i n h n' p q), []⟩)
  | 0, _ => by kernel_rfl
  | 1, _ => by kernel_rfl
  | 2, _ => by kernel_rfl
  | 3, _ => by kernel_rfl
def zRecs (i h : Nat) : List Rec := [rn 32 (lt8X i) (.bool true), rn 37 (eqX (l4 h)) (.bool true), rn 41 (eqX (l5 h)) (.bool true), rn 46 (eqX (l6 h)) (.bool true), rn 51 (eqX (l7 h)) (.bool true)]
theorem rd_stop (m c w : Nat) (gl : List Nat) (i n h : Nat) (γ : Nat → Nat) :
    endL (rdP m c w gl n) (exec Try.prog rdC ⟨rdS m c w gl (I (i : Nat)) n h, (List.range 8).map γ, zRecs i h, []⟩) =
      endR (.exit 0) (rdP m c w gl n) (exec Try.prog rdC ⟨rdS m c w gl (I (i : Nat)) n h, (List.range 8).map γ, zRecs i h, []⟩) := by kernel_rfl

def redN (c : Nat) : Nat → Nat → Nat
  | 0, n => n
  | k + 1, n => redN c k (n % R + c * (n / R))
theorem redN_lt {c : Nat} : ∀ (k : Nat) {n : Nat}, n < R → redN c k n = n
  | 0, _, _ => rfl
  | k + 1, n, h => by rw [redN, Nat.mod_eq_of_lt h, Nat.div_eq_of_lt h, Nat.mul_zero, Nat.add_zero, redN_lt k h]
theorem redN_mod {m c : Nat} (hc : m + c = R) : ∀ k n, redN c k n % m = n % m
  | 0, _ => rfl
  | k + 1, n => by
    rw [redN, redN_mod hc k]
    have h := Nat.div_add_mod n R
    conv => rhs; rw [← h]
    rw [← hc, Nat.add_mul, Nat.add_assoc, Nat.mul_add_mod, hc, Nat.add_comm]

def bnd : Nat → Nat
  | 0 => R * R
  | 1 => R * (2 ^ 130 + 1)
  | 2 => 17 * R
  | 3 => R + 2 ^ 134
  | _ => R

theorem bnd_step {c n i : Nat} (hc : c < 2 ^ 130) (hn : n < bnd i) (hi : i < 4) : n % R + c * (n / R) < bnd (i + 1) := by
  have hR : R = 115792089237316195423570985008687907853269984665640564039457584007913129639936 := rfl
  have h1 : n % R < R := Nat.mod_lt _ (by decide)
  have h2 := Nat.div_add_mod n R
  match i, hi with
  | 0, _ =>
    have hq : n / R < R := Nat.div_lt_of_lt_mul hn
    have := Nat.mul_le_mul (Nat.le_of_lt hc) (Nat.le_of_lt hq)
    show _ < R * (2 ^ 130 + 1)
    rw [hR] at *
    omega
  | 1, _ =>
    have hq : n / R < 2 ^ 130 + 1 := Nat.div_lt_of_lt_mul hn
    have := Nat.mul_le_mul (Nat.le_of_lt hc) (Nat.le_of_lt_succ hq)
    show _ < 17 * R
    rw [hR] at *
    omega
  | 2, _ =>
    have hq : n / R < 17 := Nat.div_lt_of_lt_mul (by rw [Nat.mul_comm]; exact hn)
    have := Nat.mul_le_mul (Nat.le_of_lt hc) (Nat.le_of_lt_succ hq)
    show _ < R + 2 ^ 134
    rw [hR] at *
    omega
  | 3, _ =>
    have hn' : n < R + 2 ^ 134 := hn
    have hq : n / R < 2 := Nat.div_lt_of_lt_mul (Nat.lt_of_lt_of_le hn' (by decide))
    have : n / R = 0 ∨ n / R = 1 := Nat.le_one_iff_eq_zero_or_eq_one.1 (Nat.le_of_lt_succ hq)
    show _ < R
    rcases this with h | h
    · rw [h, Nat.mul_zero, Nat.add_zero]; exact h1
    · rw [h, Nat.mul_one]
      rw [h, Nat.mul_one] at h2
      rw [hR] at *
      omega
theorem bnd_le (i : Nat) : bnd i ≤ R * R := by
  unfold bnd
  split <;> decide

end Go.Proofs.Ytildcmggcbdhpaa
