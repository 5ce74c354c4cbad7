/- Package limb: Select, products, Montgomery's step. No conditions but that numbers are below R. -/
import Derived.Test.YtildcmggcbdhpaaLimb
import Derived.Laws.BitsAllLaws
namespace Go.Proofs.Ytildcmggcbdhpaa
open Go.Ex Go.RowKit Lim

theorem and_all {x : Nat} (h : x < B) : x &&& 18446744073709551615 = x := by
  have := Nat.and_two_pow_sub_one_eq_mod x 64
  rw [show (2 : Nat) ^ 64 - 1 = 18446744073709551615 from by decide, show (2 : Nat) ^ 64 = B from by decide, Nat.mod_eq_of_lt h] at this
  exact this

def selX (m : Int) (x y : Nat) : Value := .int .u64 (bits .or .u64 (bits .and .u64 x m) (bits .andNot .u64 y m))
theorem sel_one {x y : Nat} (hx : x < B) (hy : y < B) : selX 18446744073709551615 x y = U x := by
  unfold selX U
  have e1 := u64_and_nat x 18446744073709551615 hx (by decide)
  have e2 := u64_andNot_nat y 18446744073709551615 hy (by decide)
  rw [and_all hx] at e1
  rw [Nat.sub_self, Nat.and_zero] at e2
  have e3 := u64_or_nat x 0 hx (by decide)
  rw [Nat.or_zero] at e3
  rw [show ((18446744073709551615 : Nat) : Int) = 18446744073709551615 from rfl] at e1 e2
  rw [show ((0 : Nat) : Int) = 0 from rfl] at e2 e3
  rw [e1, e2, e3]
theorem sel_zero {x y : Nat} (hx : x < B) (hy : y < B) : selX 0 x y = U y := by
  unfold selX U
  have e1 := u64_and_nat x 0 hx (by decide)
  have e2 := u64_andNot_nat y 0 hy (by decide)
  rw [Nat.and_zero] at e1
  rw [Nat.sub_zero, and_all hy] at e2
  have e3 := u64_or_nat 0 y (by decide) hy
  rw [Nat.zero_or] at e3
  rw [show ((0 : Nat) : Int) = 0 from rfl] at e1 e2 e3
  rw [e1, e2, e3]

/-- limb.Select -/
theorem f119_one (a b : Nat) : Pure 119 [U 1, NV a, NV b] (NV a) :=
  pure_of Try.func119 rfl 8 _ [rn 12 (.int .u64 (IntKind.u64.wrap (0 - bits .and .u64 1 1))) (U 18446744073709551615),
    rn 27 (selX 18446744073709551615 (l0 a) (l0 b)) (U (l0 a)), rn 27 (selX 18446744073709551615 (l1 a) (l1 b)) (U (l1 a)), rn 27 (selX 18446744073709551615 (l2 a) (l2 b)) (U (l2 a)), rn 27 (selX 18446744073709551615 (l3 a) (l3 b)) (U (l3 a))] _
    (fun _ => ⟨rn_ok (by kernel_rfl), rn_ok (sel_one (l0_lt a) (l0_lt b)), rn_ok (sel_one (l1_lt a) (l1_lt b)), rn_ok (sel_one (l2_lt a) (l2_lt b)), rn_ok (sel_one (l3_lt a) (l3_lt b)), trivial⟩) (fun γ => by kernel_rfl)
theorem f119_zero (a b : Nat) : Pure 119 [U 0, NV a, NV b] (NV b) :=
  pure_of Try.func119 rfl 8 _ [rn 12 (.int .u64 (IntKind.u64.wrap (0 - bits .and .u64 0 1))) (U 0),
    rn 27 (selX 0 (l0 a) (l0 b)) (U (l0 b)), rn 27 (selX 0 (l1 a) (l1 b)) (U (l1 b)), rn 27 (selX 0 (l2 a) (l2 b)) (U (l2 b)), rn 27 (selX 0 (l3 a) (l3 b)) (U (l3 b))] _
    (fun _ => ⟨rn_ok (by kernel_rfl), rn_ok (sel_zero (l0_lt a) (l0_lt b)), rn_ok (sel_zero (l1_lt a) (l1_lt b)), rn_ok (sel_zero (l2_lt a) (l2_lt b)), rn_ok (sel_zero (l3_lt a) (l3_lt b)), trivial⟩) (fun γ => by kernel_rfl)

/-- bits.Mul64 -/
def mulX (x y : Nat) : Value × Value :=
  let W := IntKind.u64.wrap
  let x0 : Int := bits .and .u64 x 4294967295
  let x1 : Int := (x : Int).fdiv (2 ^ 32)
  let y0 : Int := bits .and .u64 y 4294967295
  let y1 : Int := (y : Int).fdiv (2 ^ 32)
  let w0 : Int := W (x0 * y0)
  let t : Int := W (W (x1 * y0) + w0.fdiv (2 ^ 32))
  let w1 : Int := bits .and .u64 t 4294967295
  let w2 : Int := t.fdiv (2 ^ 32)
  let w1' : Int := W (w1 + W (x0 * y1))
  (.int .u64 (W (W (W (x1 * y1) + w2) + w1'.fdiv (2 ^ 32))), .int .u64 (W (x * y)))

theorem f130_raw (x y : Nat) : Pure 130 [U x, U y] (.tuple #[(mulX x y).1, (mulX x y).2]) :=
  pure_of Try.func130 rfl 8 _ [] _ (fun _ => trivial) (fun γ => by kernel_rfl)

theorem wrapU (n : Int) : IntKind.u64.wrap n = n % 18446744073709551616 := by
  simp [IntKind.wrap, IntKind.bits, IntKind.signed]

theorem fdiv32 (n : Int) : n.fdiv (2 ^ 32) = n / 4294967296 := by
  rw [Int.fdiv_eq_ediv_of_nonneg _ (by decide)]; rfl

theorem mulX_eq {x y : Nat} (hx : x < B) (hy : y < B) : mulX x y = (U (mhi x y), U (mlo x y)) := by
  have hB : B = 18446744073709551616 := rfl
  rw [hB] at hx hy
  have hx0 : (0 : Int) ≤ x := Int.natCast_nonneg x
  have hy0 : (0 : Int) ≤ y := Int.natCast_nonneg y
  have hx1 : (x : Int) < 18446744073709551616 := by omega
  have hy1 : (y : Int) < 18446744073709551616 := by omega
  have key := mul64_arith (x : Int) y hx0 hx1 hy0 hy1
  unfold mulX
  dsimp only
  rw [and_low32 _ hx0 hx1, and_low32 _ hy0 hy1]
  simp only [wrapU, fdiv32]
  rw [and_low32 _ (Int.emod_nonneg _ (by decide)) (Int.emod_lt_of_pos _ (by decide)), key]
  unfold U mhi mlo
  rw [hB]
  congr 1

theorem f130_ok {x y : Nat} (hx : x < B) (hy : y < B) : Pure 130 [U x, U y] (.tuple #[U (mhi x y), U (mlo x y)]) := by
  have h := f130_raw x y
  rw [mulX_eq hx hy] at h
  exact h

/-- one step of a product: what is told of it -/
def macRecs (k1 k2 k3 k4 x y o c : Nat) : List Rec :=
  [pc 130 [U x, U y] (.tuple #[U (mhi x y), U (mlo x y)]), addF k1 (mlo x y) o 0, rn k2 (.int .u64 (IntKind.u64.wrap ((mhi x y : Nat) + (c1 x y o : Nat)))) (U (h1 x y o)),
    addF k3 (a1 x y o) c 0, rn k4 (.int .u64 (IntKind.u64.wrap ((h1 x y o : Nat) + (c2 x y o c : Nat)))) (U (h2 x y o c))]

theorem wrap_in {n : Nat} (h : n < B) : IntKind.u64.wrap (n : Int) = n := by
  have hB : B = 18446744073709551616 := rfl
  rw [wrapU, Int.emod_eq_of_lt (Int.natCast_nonneg n) (by omega)]

theorem macRecs_ok (k1 k2 k3 k4 : Nat) {x y o c : Nat} (w : World) (hx : x < B) (hy : y < B) (ho : o < B) (hc : c < B) : RecsOk w (macRecs k1 k2 k3 k4 x y o c) := by
  obtain ⟨_, _, m3, m4, _, _⟩ := mac x y o c hx hy ho hc
  refine ⟨pc_ok (f130_ok hx hy), addF_ok (by omega), rn_ok ?_, addF_ok (by omega), rn_ok ?_, trivial⟩
  · rw [← Int.natCast_add]
    show Value.int .u64 (IntKind.u64.wrap ((h1 x y o : Nat) : Int)) = _
    rw [wrap_in m4]
  · rw [← Int.natCast_add]
    show Value.int .u64 (IntKind.u64.wrap ((h2 x y o c : Nat) : Int)) = _
    rw [wrap_in m3]

def mrecs (k1 k2 k3 k4 x : Nat) : List Nat → List Nat → Nat → List Rec
  | y :: ys, o :: os, c => macRecs k1 k2 k3 k4 x y o c ++ mrecs k1 k2 k3 k4 x ys os (h2 x y o c)
  | _, _, _ => []

theorem mrecs_ok (k1 k2 k3 k4 : Nat) {x : Nat} (w : World) (hx : x < B) : ∀ (ys os : List Nat) (c : Nat), Dig ys → Dig os → c < B → RecsOk w (mrecs k1 k2 k3 k4 x ys os c)
  | y :: ys, o :: os, c, hy, ho, hc =>
    (macRecs_ok k1 k2 k3 k4 w hx hy.head ho.head hc).append (mrecs_ok k1 k2 k3 k4 w hx ys os _ hy.tail ho.tail (mac x y o c hx hy.head ho.head hc).2.2.1)
  | [], [], _, _, _, _ => trivial
  | [], _ :: _, _, _, _, _ => trivial
  | _ :: _, [], _, _, _, _ => trivial

def mulRecs (k1 k2 k3 k4 : Nat) : List Nat → List Nat → List Nat → List Rec
  | [], _, _ => []
  | x :: xs, ys, acc => mrecs k1 k2 k3 k4 x ys acc 0 ++ mulRecs k1 k2 k3 k4 xs ys ((mrow x ys acc 0).1.tail ++ [(mrow x ys acc 0).2])

theorem mulRecs_ok (k1 k2 k3 k4 : Nat) (w : World) : ∀ (xs ys acc : List Nat), Dig xs → Dig ys → Dig acc → acc.length = ys.length → 0 < ys.length → RecsOk w (mulRecs k1 k2 k3 k4 xs ys acc)
  | [], _, _, _, _, _, _, _ => trivial
  | x :: xs, ys, acc, hx, hy, ha, hl, hp => by
    obtain ⟨e1, e2, e3, e4⟩ := mrow_spec x hx.head ys acc 0 hy ha hl.symm B_pos
    obtain ⟨f1, f2, f3, f4⟩ := shift_spec (n := ys.length - 1) e2 e4 (by omega)
    exact (mrecs_ok k1 k2 k3 k4 w hx.head ys acc 0 hy ha B_pos).append (mulRecs_ok k1 k2 k3 k4 w xs ys _ hx.tail hy f2 (by omega) hp)

theorem mul_val {a b : Nat} (ha : a < R) (hb : b < R) : aggU (mulRows (L4 a) (L4 b) [0, 0, 0, 0]) = WV (a * b) := by
  have h0 : Dig [0, 0, 0, 0] := fun x hx => by simp at hx; subst hx; exact B_pos
  obtain ⟨e1, e2, e3⟩ := mulRows_spec (L4 a) (L4 b) [0, 0, 0, 0] (L4_dig a) (L4_dig b) h0 rfl (Nat.zero_lt_succ 3)
  rw [aggU_WV e2 (by rw [e3]; rfl), e1, L4_val ha, L4_val hb]
  simp [val]

/-- limb.Mul -/
theorem f116_raw (a b : Nat) : Pure 116 [NV a, NV b] (aggU (mulRows (L4 a) (L4 b) [0, 0, 0, 0])) :=
  pure_of Try.func116 rfl 8 _ (mulRecs 37 42 46 55 (L4 a) (L4 b) [0, 0, 0, 0]) _
    (fun w => mulRecs_ok 37 42 46 55 w _ _ _ (L4_dig a) (L4_dig b) (fun x hx => by simp at hx; subst hx; exact B_pos) rfl (Nat.zero_lt_succ 3)) (fun γ => by kernel_rfl)
theorem f116_ok {a b : Nat} (ha : a < R) (hb : b < R) : Pure 116 [NV a, NV b] (WV (a * b)) := by
  have h := f116_raw a b
  rw [mul_val ha hb] at h
  exact h

end Go.Proofs.Ytildcmggcbdhpaa
