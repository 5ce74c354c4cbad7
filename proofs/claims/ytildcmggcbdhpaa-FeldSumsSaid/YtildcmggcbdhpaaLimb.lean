/- Package limb: what its functions compute. No conditions but that numbers are below R. Package limb: Select, products, Montgomery's step. No conditions but that numbers are below R. Package limb: Montgomery's way. No conditions but that numbers are below the modulus. Package limb: products in Montgomery's way. No conditions but that numbers are below the modulus. Package limb: equality of numbers, bits, remainders. No conditions but that numbers are below R. Package limb: bits and remainders. No conditions. Package limb: the remainder. No conditions but that the number that divides is below R and not 0. Package limb: the remainder's walk. No conditions but that the number that divides is below R and not 0. -/
import Derived.Test.YtildcmggcbdhpaaBase
import Derived.Laws.BitsAllLaws
import Derived.ChangeKeysEq
namespace Go.Proofs.Ytildcmggcbdhpaa
open Go.Ex Go.RowKit Lim

def addRecs (d : Nat) : List Nat → List Nat → Nat → List Rec
  | x :: xs, y :: ys, c => addF d x y c :: addRecs d xs ys ((x + y + c) / B)
  | _, _, _ => []
theorem addRecs_ok (d : Nat) (w : World) : ∀ (xs ys : List Nat) (c : Nat), Dig xs → Dig ys → c ≤ 1 → RecsOk w (addRecs d xs ys c)
  | x :: xs, y :: ys, c, hx, hy, hc => by
    have h1 := hx.head
    have h2 := hy.head
    have hc' : (x + y + c) / B ≤ 1 := by
      have : (x + y + c) / B < 2 := Nat.div_lt_of_lt_mul (by omega)
      omega
    exact ⟨addF_ok hc, addRecs_ok d w xs ys _ hx.tail hy.tail hc'⟩
  | [], [], _, _, _, _ => trivial
  | [], _ :: _, _, _, _, _ => trivial
  | _ :: _, [], _, _, _, _ => trivial
def subRecs (d : Nat) : List Nat → List Nat → Nat → List Rec
  | x :: xs, y :: ys, c => subF d x y c :: subRecs d xs ys (if x < y + c then 1 else 0)
  | _, _, _ => []
theorem subRecs_ok (d : Nat) (w : World) : ∀ (xs ys : List Nat) (c : Nat), c ≤ 1 → RecsOk w (subRecs d xs ys c)
  | x :: xs, y :: ys, c, hc => ⟨subF_ok hc, subRecs_ok d w xs ys _ (by split <;> omega)⟩
  | [], [], _, _ => trivial
  | [], _ :: _, _, _ => trivial
  | _ :: _, [], _, _ => trivial

def L4 (n : Nat) : List Nat := [l0 n, l1 n, l2 n, l3 n]
theorem L4_dig (n : Nat) : Dig (L4 n) := dig4 n
theorem L4_val {n : Nat} (h : n < R) : val (L4 n) = n := by
  have := val4 n
  rw [← R_eq, Nat.mod_eq_of_lt h] at this
  exact this

theorem add_val {a b : Nat} (ha : a < R) (hb : b < R) : aggU (addc (L4 a) (L4 b) 0).1 = NV ((a + b) % R) ∧ (addc (L4 a) (L4 b) 0).2 = (a + b) / R := by
  obtain ⟨e1, e2, e3, e4⟩ := addc_spec (L4 a) (L4 b) 0 (L4_dig a) (L4_dig b) rfl (by omega)
  have hl : (L4 a).length = 4 := rfl
  rw [hl, ← R_eq, L4_val ha, L4_val hb, Nat.add_zero] at e1
  have hv := val_lt _ e2
  rw [e3, hl, ← R_eq] at hv
  have hR : 0 < R := by decide
  rw [aggU_NV e2 (by rw [e3]; rfl), ← e1, Nat.add_mul_mod_self_left, Nat.mod_eq_of_lt hv, Nat.add_mul_div_left _ _ hR, Nat.div_eq_of_lt hv, Nat.zero_add]
  exact ⟨rfl, rfl⟩

theorem sub_val {a b : Nat} (ha : a < R) (hb : b < R) : aggU (subb (L4 a) (L4 b) 0).1 = NV ((a + R - b) % R) ∧ (subb (L4 a) (L4 b) 0).2 = if a < b then 1 else 0 := by
  obtain ⟨e1, e2, e3, e4⟩ := subb_spec (L4 a) (L4 b) 0 (L4_dig a) (L4_dig b) rfl (by omega)
  have hl : (L4 a).length = 4 := rfl
  rw [hl, ← R_eq, L4_val ha, L4_val hb, Nat.add_zero] at e1
  have hv := val_lt _ e2
  rw [e3, hl, ← R_eq] at hv
  rw [aggU_NV e2 (by rw [e3]; rfl)]
  have h01 : (subb (L4 a) (L4 b) 0).2 = 0 ∨ (subb (L4 a) (L4 b) 0).2 = 1 := by omega
  rcases h01 with h | h
  · rw [h, Nat.mul_zero] at e1
    rw [h, if_neg (by omega)]
    have : (a + R - b) % R = val (subb (L4 a) (L4 b) 0).1 := by
      rw [show a + R - b = val (subb (L4 a) (L4 b) 0).1 + R by omega, Nat.add_mod_right, Nat.mod_eq_of_lt hv]
    rw [this]
    exact ⟨rfl, rfl⟩
  · rw [h, Nat.mul_one] at e1
    rw [h, if_pos (by omega)]
    have : (a + R - b) % R = val (subb (L4 a) (L4 b) 0).1 := by
      rw [show a + R - b = val (subb (L4 a) (L4 b) 0).1 by omega, Nat.mod_eq_of_lt hv]
    rw [this]
    exact ⟨rfl, rfl⟩

/-- (limb.number).plus -/
theorem f135_raw (a b : Nat) : Pure 135 [NV a, NV b] (.tuple #[aggU (addc (L4 a) (L4 b) 0).1, U (addc (L4 a) (L4 b) 0).2]) :=
  pure_of Try.func135 rfl 8 _ (addRecs 21 (L4 a) (L4 b) 0) _ (fun w => addRecs_ok 21 w _ _ 0 (L4_dig a) (L4_dig b) (by omega)) (fun γ => by kernel_rfl)
theorem f135_ok {a b : Nat} (ha : a < R) (hb : b < R) : Pure 135 [NV a, NV b] (.tuple #[NV ((a + b) % R), U ((a + b) / R)]) := by
  have h := f135_raw a b
  rw [(add_val ha hb).1, (add_val ha hb).2] at h
  exact h
/-- (limb.number).minus -/
theorem f133_raw (a b : Nat) : Pure 133 [NV a, NV b] (.tuple #[aggU (subb (L4 a) (L4 b) 0).1, U (subb (L4 a) (L4 b) 0).2]) :=
  pure_of Try.func133 rfl 8 _ (subRecs 21 (L4 a) (L4 b) 0) _ (fun w => subRecs_ok 21 w _ _ 0 (by omega)) (fun γ => by kernel_rfl)
theorem f133_ok {a b : Nat} (ha : a < R) (hb : b < R) : Pure 133 [NV a, NV b] (.tuple #[NV ((a + R - b) % R), U (if a < b then 1 else 0)]) := by
  have h := f133_raw a b
  rw [(sub_val ha hb).1, (sub_val ha hb).2] at h
  exact h
/-- limb.Add -/
theorem f117_ok {a b : Nat} (ha : a < R) (hb : b < R) : Pure 117 [NV a, NV b] (.tuple #[NV ((a + b) % R), U ((a + b) / R)]) :=
  pure_of Try.func117 rfl 8 _ [pc 135 [NV a, NV b] (.tuple #[NV ((a + b) % R), U ((a + b) / R)])] _ (fun _ => ⟨pc_ok (f135_ok ha hb), trivial⟩) (fun γ => by kernel_rfl)
/-- limb.Sub -/
theorem f118_ok {a b : Nat} (ha : a < R) (hb : b < R) : Pure 118 [NV a, NV b] (.tuple #[NV ((a + R - b) % R), U (if a < b then 1 else 0)]) :=
  pure_of Try.func118 rfl 8 _ [pc 133 [NV a, NV b] (.tuple #[NV ((a + R - b) % R), U (if a < b then 1 else 0)])] _ (fun _ => ⟨pc_ok (f133_ok ha hb), trivial⟩) (fun γ => by kernel_rfl)
/-- limb.carry of minus -/
theorem f132_ok {a b : Nat} (ha : a < R) (hb : b < R) : Pure 132 [.func (.func 133) #[] #[], NV a, NV b] (U (if a < b then 1 else 0)) :=
  pure_of Try.func132 rfl 8 _ [pc 133 [NV a, NV b] (.tuple #[NV ((a + R - b) % R), U (if a < b then 1 else 0)])] _ (fun _ => ⟨pc_ok (f133_ok ha hb), trivial⟩) (fun γ => by kernel_rfl)

end Go.Proofs.Ytildcmggcbdhpaa

namespace Go.Proofs.Ytildcmggcbdhpaa
open Go.Ex Go.RowKit Lim

theorem and_all {x : Nat} (h : x < B) : x &&& 18446744073709551615 = x := by
  have := Nat.and_two_pow_sub_one_eq_mod x 64
  rw [show (2 : Nat) ^ 64 - 1 = 18446744073709551615 from by decide, show (2 : Nat) ^ 64 = B from by decide, Nat.mod_eq_of_lt h] at this
  exact this

def selX (m : Int) (x y : Nat) : Value := .int .u64 (bits .or .u64 (bits .and .u64 x m) (bits .andNot .u64 y m))
theorem sel_one {x y : Nat} (hx : x < B) (hy : y < B) : selX 18446744073709551615 x y = U x := by
  unfold selX U
  have e1 := u64_and_nat x 18446744073709551615 hx (by decide)
  have e2 := u64_andNot_nat y 18446744073709551615 hy (by decide)
  rw [and_all hx] at e1
  rw [Nat.sub_self, Nat.and_zero] at e2
  have e3 := u64_or_nat x 0 hx (by decide)
  rw [Nat.or_zero] at e3
  rw [show ((18446744073709551615 : Nat) : Int) = 18446744073709551615 from rfl] at e1 e2
  rw [show ((0 : Nat) : Int) = 0 from rfl] at e2 e3
  rw [e1, e2, e3]
theorem sel_zero {x y : Nat} (hx : x < B) (hy : y < B) : selX 0 x y = U y := by
  unfold selX U
  have e1 := u64_and_nat x 0 hx (by decide)
  have e2 := u64_andNot_nat y 0 hy (by decide)
  rw [Nat.and_zero] at e1
  rw [Nat.sub_zero, and_all hy] at e2
  have e3 := u64_or_nat 0 y (by decide) hy
  rw [Nat.zero_or] at e3
  rw [show ((0 : Nat) : Int) = 0 from rfl] at e1 e2 e3
  rw [e1, e2, e3]

/-- limb.Select -/
theorem f119_one (a b : Nat) : Pure 119 [U 1, NV a, NV b] (NV a) :=
  pure_of Try.func119 rfl 8 _ [rn 12 (.int .u64 (IntKind.u64.wrap (0 - bits .and .u64 1 1))) (U 18446744073709551615),
    rn 27 (selX 18446744073709551615 (l0 a) (l0 b)) (U (l0 a)), rn 27 (selX 18446744073709551615 (l1 a) (l1 b)) (U (l1 a)), rn 27 (selX 18446744073709551615 (l2 a) (l2 b)) (U (l2 a)), rn 27 (selX 18446744073709551615 (l3 a) (l3 b)) (U (l3 a))] _
    (fun _ => ⟨rn_ok (by kernel_rfl), rn_ok (sel_one (l0_lt a) (l0_lt b)), rn_ok (sel_one (l1_lt a) (l1_lt b)), rn_ok (sel_one (l2_lt a) (l2_lt b)), rn_ok (sel_one (l3_lt a) (l3_lt b)), trivial⟩) (fun γ => by kernel_rfl)
theorem f119_zero (a b : Nat) : Pure 119 [U 0, NV a, NV b] (NV b) :=
  pure_of Try.func119 rfl 8 _ [rn 12 (.int .u64 (IntKind.u64.wrap (0 - bits .and .u64 0 1))) (U 0),
    rn 27 (selX 0 (l0 a) (l0 b)) (U (l0 b)), rn 27 (selX 0 (l1 a) (l1 b)) (U (l1 b)), rn 27 (selX 0 (l2 a) (l2 b)) (U (l2 b)), rn 27 (selX 0 (l3 a) (l3 b)) (U (l3 b))] _
    (fun _ => ⟨rn_ok (by kernel_rfl), rn_ok (sel_zero (l0_lt a) (l0_lt b)), rn_ok (sel_zero (l1_lt a) (l1_lt b)), rn_ok (sel_zero (l2_lt a) (l2_lt b)), rn_ok (sel_zero (l3_lt a) (l3_lt b)), trivial⟩) (fun γ => by kernel_rfl)

/-- bits.Mul64 -/
def mulX (x y : Nat) : Value × Value :=
  let W := IntKind.u64.wrap
  let x0 : Int := bits .and .u64 x 4294967295
  let x1 : Int := (x : Int).fdiv (2 ^ 32)
  let y0 : Int := bits .and .u64 y 4294967295
  let y1 : Int := (y : Int).fdiv (2 ^ 32)
  let w0 : Int := W (x0 * y0)
  let t : Int := W (W (x1 * y0) + w0.fdiv (2 ^ 32))
  let w1 : Int := bits .and .u64 t 4294967295
  let w2 : Int := t.fdiv (2 ^ 32)
  let w1' : Int := W (w1 + W (x0 * y1))
  (.int .u64 (W (W (W (x1 * y1) + w2) + w1'.fdiv (2 ^ 32))), .int .u64 (W (x * y)))

theorem f130_raw (x y : Nat) : Pure 130 [U x, U y] (.tuple #[(mulX x y).1, (mulX x y).2]) :=
  pure_of Try.func130 rfl 8 _ [] _ (fun _ => trivial) (fun γ => by kernel_rfl)

theorem wrapU (n : Int) : IntKind.u64.wrap n = n % 18446744073709551616 := by
  simp [IntKind.wrap, IntKind.bits, IntKind.signed]

theorem fdiv32 (n : Int) : n.fdiv (2 ^ 32) = n / 4294967296 := by
  rw [Int.fdiv_eq_ediv_of_nonneg _ (by decide)]; rfl

theorem mulX_eq {x y : Nat} (hx : x < B) (hy : y < B) : mulX x y = (U (mhi x y), U (mlo x y)) := by
  have hB : B = 18446744073709551616 := rfl
  rw [hB] at hx hy
  have hx0 : (0 : Int) ≤ x := Int.natCast_nonneg x
  have hy0 : (0 : Int) ≤ y := Int.natCast_nonneg y
  have hx1 : (x : Int) < 18446744073709551616 := by omega
  have hy1 : (y : Int) < 18446744073709551616 := by omega
  have key := mul64_arith (x : Int) y hx0 hx1 hy0 hy1
  unfold mulX
  dsimp only
  rw [and_low32 _ hx0 hx1, and_low32 _ hy0 hy1]
  simp only [wrapU, fdiv32]
  rw [and_low32 _ (Int.emod_nonneg _ (by decide)) (Int.emod_lt_of_pos _ (by decide)), key]
  unfold U mhi mlo
  rw [hB]
  congr 1

theorem f130_ok {x y : Nat} (hx : x < B) (hy : y < B) : Pure 130 [U x, U y] (.tuple #[U (mhi x y), U (mlo x y)]) := by
  have h := f130_raw x y
  rw [mulX_eq hx hy] at h
  exact h

/-- one step of a product: what is told of it -/
def macRecs (k1 k2 k3 k4 x y o c : Nat) : List Rec :=
  [pc 130 [U x, U y] (.tuple #[U (mhi x y), U (mlo x y)]), addF k1 (mlo x y) o 0, rn k2 (.int .u64 (IntKind.u64.wrap ((mhi x y : Nat) + (c1 x y o : Nat)))) (U (h1 x y o)),
    addF k3 (a1 x y o) c 0, rn k4 (.int .u64 (IntKind.u64.wrap ((h1 x y o : Nat) + (c2 x y o c : Nat)))) (U (h2 x y o c))]

theorem wrap_in {n : Nat} (h : n < B) : IntKind.u64.wrap (n : Int) = n := by
  have hB : B = 18446744073709551616 := rfl
  rw [wrapU, Int.emod_eq_of_lt (Int.natCast_nonneg n) (by omega)]

theorem macRecs_ok (k1 k2 k3 k4 : Nat) {x y o c : Nat} (w : World) (hx : x < B) (hy : y < B) (ho : o < B) (hc : c < B) : RecsOk w (macRecs k1 k2 k3 k4 x y o c) := by
  obtain ⟨_, _, m3, m4, _, _⟩ := mac x y o c hx hy ho hc
  refine ⟨pc_ok (f130_ok hx hy), addF_ok (by omega), rn_ok ?_, addF_ok (by omega), rn_ok ?_, trivial⟩
  · rw [← Int.natCast_add]
    show Value.int .u64 (IntKind.u64.wrap ((h1 x y o : Nat) : Int)) = _
    rw [wrap_in m4]
  · rw [← Int.natCast_add]
    show Value.int .u64 (IntKind.u64.wrap ((h2 x y o c : Nat) : Int)) = _
    rw [wrap_in m3]

def mrecs (k1 k2 k3 k4 x : Nat) : List Nat → List Nat → Nat → List Rec
  | y :: ys, o :: os, c => macRecs k1 k2 k3 k4 x y o c ++ mrecs k1 k2 k3 k4 x ys os (h2 x y o c)
  | _, _, _ => []

theorem mrecs_ok (k1 k2 k3 k4 : Nat) {x : Nat} (w : World) (hx : x < B) : ∀ (ys os : List Nat) (c : Nat), Dig ys → Dig os → c < B → RecsOk w (mrecs k1 k2 k3 k4 x ys os c)
  | y :: ys, o :: os, c, hy, ho, hc =>
    (macRecs_ok k1 k2 k3 k4 w hx hy.head ho.head hc).append (mrecs_ok k1 k2 k3 k4 w hx ys os _ hy.tail ho.tail (mac x y o c hx hy.head ho.head hc).2.2.1)
  | [], [], _, _, _, _ => trivial
  | [], _ :: _, _, _, _, _ => trivial
  | _ :: _, [], _, _, _, _ => trivial

def mulRecs (k1 k2 k3 k4 : Nat) : List Nat → List Nat → List Nat → List Rec
  | [], _, _ => []
  | x :: xs, ys, acc => mrecs k1 k2 k3 k4 x ys acc 0 ++ mulRecs k1 k2 k3 k4 xs ys ((mrow x ys acc 0).1.tail ++ [(mrow x ys acc 0).2])

theorem mulRecs_ok (k1 k2 k3 k4 : Nat) (w : World) : ∀ (xs ys acc : List Nat), Dig xs → Dig ys → Dig acc → acc.length = ys.length → 0 < ys.length → RecsOk w (mulRecs k1 k2 k3 k4 xs ys acc)
  | [], _, _, _, _, _, _, _ => trivial
  | x :: xs, ys, acc, hx, hy, ha, hl, hp => by
    obtain ⟨e1, e2, e3, e4⟩ := mrow_spec x hx.head ys acc 0 hy ha hl.symm B_pos
    obtain ⟨f1, f2, f3, f4⟩ := shift_spec (n := ys.length - 1) e2 e4 (by omega)
    exact (mrecs_ok k1 k2 k3 k4 w hx.head ys acc 0 hy ha B_pos).append (mulRecs_ok k1 k2 k3 k4 w xs ys _ hx.tail hy f2 (by omega) hp)

theorem mul_val {a b : Nat} (ha : a < R) (hb : b < R) : aggU (mulRows (L4 a) (L4 b) [0, 0, 0, 0]) = WV (a * b) := by
  have h0 : Dig [0, 0, 0, 0] := fun x hx => by simp at hx; subst hx; exact B_pos
  obtain ⟨e1, e2, e3⟩ := mulRows_spec (L4 a) (L4 b) [0, 0, 0, 0] (L4_dig a) (L4_dig b) h0 rfl (Nat.zero_lt_succ 3)
  rw [aggU_WV e2 (by rw [e3]; rfl), e1, L4_val ha, L4_val hb]
  simp [val]

/-- limb.Mul -/
theorem f116_raw (a b : Nat) : Pure 116 [NV a, NV b] (aggU (mulRows (L4 a) (L4 b) [0, 0, 0, 0])) :=
  pure_of Try.func116 rfl 8 _ (mulRecs 37 42 46 55 (L4 a) (L4 b) [0, 0, 0, 0]) _
    (fun w => mulRecs_ok 37 42 46 55 w _ _ _ (L4_dig a) (L4_dig b) (fun x hx => by simp at hx; subst hx; exact B_pos) rfl (Nat.zero_lt_succ 3)) (fun γ => by kernel_rfl)
theorem f116_ok {a b : Nat} (ha : a < R) (hb : b < R) : Pure 116 [NV a, NV b] (WV (a * b)) := by
  have h := f116_raw a b
  rw [mul_val ha hb] at h
  exact h

end Go.Proofs.Ytildcmggcbdhpaa

namespace Go.Proofs.Ytildcmggcbdhpaa
open Go.Ex Go.RowKit Lim

/-- a limb.Mont -/
def montE (g m r2 inv : Nat) : Ent := ⟨g, [U (l0 m), U (l1 m), U (l2 m), U (l3 m), U (l0 r2), U (l1 r2), U (l2 r2), U (l3 r2), U inv], [], 153, false⟩
abbrev PT (g : Nat) : Value := .pointer (some ⟨g, 0, none⟩)

def rq (inv : Nat) (ws : List Nat) : Nat := ws.headD 0 * inv % B
def rrow (inv : Nat) (ms ws : List Nat) : List Nat × Nat := mrow (rq inv ws) ms (ws.take 4) 0
def rprop (inv : Nat) (ms ws : List Nat) : List Nat × Nat := prop (ws.drop 4) (rrow inv ms ws).2
def rws (inv : Nat) (ms ws : List Nat) : List Nat := (rrow inv ms ws).1.tail ++ (rprop inv ms ws).1

def propRecs (d : Nat) : List Nat → Nat → List Rec
  | o :: os, c => addF d o c 0 :: propRecs d os ((o + c + 0) / B)
  | [], _ => []
theorem propRecs_ok (d : Nat) (w : World) : ∀ (os : List Nat) (c : Nat), RecsOk w (propRecs d os c)
  | o :: os, c => ⟨addF_ok (by omega), propRecs_ok d w os _⟩
  | [], _ => trivial

def redRecs (inv : Nat) (ms : List Nat) : Nat → List Nat → Nat → List Rec
  | 0, _, _ => []
  | n + 1, ws, top => rn 28 (.int .u64 (IntKind.u64.wrap ((ws.headD 0 : Nat) * (inv : Nat)))) (U (rq inv ws)) ::
      (mrecs 50 55 59 68 (rq inv ws) ms (ws.take 4) 0 ++ (propRecs 83 (ws.drop 4) (rrow inv ms ws).2 ++
        (rn 89 (.int .u64 (IntKind.u64.wrap ((top : Nat) + ((rprop inv ms ws).2 : Nat)))) (U (top + (rprop inv ms ws).2)) ::
          redRecs inv ms n (rws inv ms ws) (top + (rprop inv ms ws).2))))

theorem prop_le : ∀ (os : List Nat) (c : Nat), Dig os → c < B → 0 < os.length → (prop os c).2 ≤ 1
  | [o], c, ho, hc, _ => by
    have h1 := ho.head
    have hc' : (o + c + 0) / B < 2 := Nat.div_lt_of_lt_mul (by omega)
    show (o + c + 0) / B ≤ 1
    omega
  | o :: p :: os, c, ho, hc, _ => by
    have h1 := ho.head
    have hc' : (o + c + 0) / B < 2 := Nat.div_lt_of_lt_mul (by omega)
    have hB : 2 < B := by decide
    exact prop_le (p :: os) _ ho.tail (by omega) (by simp)

theorem dig_take {l : List Nat} (h : Dig l) (n : Nat) : Dig (l.take n) := fun x hx => h x (List.mem_of_mem_take hx)
theorem dig_drop {l : List Nat} (h : Dig l) (n : Nat) : Dig (l.drop n) := fun x hx => h x (List.mem_of_mem_drop hx)

theorem round_spec {inv : Nat} {ms ws : List Nat} {top n : Nat} (hm : Dig ms) (hml : ms.length = 4) (hw : Dig ws) (hwl : ws.length = n + 5) (hinv : (val ms * inv + 1) % B = 0) :
    B * (val (rws inv ms ws) + B ^ (n + 4) * (top + (rprop inv ms ws).2)) = rq inv ws * val ms + (val ws + B ^ (n + 5) * top) ∧ Dig (rws inv ms ws) ∧ (rws inv ms ws).length = n + 4 ∧ (rprop inv ms ws).2 ≤ 1 := by
  have hq : rq inv ws < B := Nat.mod_lt _ B_pos
  obtain ⟨e1, e2, e3, e4⟩ := mrow_spec (rq inv ws) hq ms (ws.take 4) 0 hm (dig_take hw 4) (by rw [List.length_take, hml]; omega) B_pos
  obtain ⟨p1, p2, p3, p4⟩ := prop_spec (ws.drop 4) (mrow (rq inv ws) ms (ws.take 4) 0).2 (dig_drop hw 4) e4
  have hle := prop_le (ws.drop 4) (mrow (rq inv ws) ms (ws.take 4) 0).2 (dig_drop hw 4) e4 (by rw [List.length_drop]; omega)
  have hv : val ws = val (ws.take 4) + B ^ 4 * val (ws.drop 4) := by
    conv => lhs; rw [← List.take_append_drop 4 ws]
    rw [val_append, List.length_take, hwl, Nat.min_eq_left (by omega)]
  have e0 : (mrow (rq inv ws) ms (ws.take 4) 0).1 = (mrow (rq inv ws) ms (ws.take 4) 0).1.headD 0 :: (mrow (rq inv ws) ms (ws.take 4) 0).1.tail := head_tail (by omega)
  have hd0 : (mrow (rq inv ws) ms (ws.take 4) 0).1.headD 0 < B := by
    have : Dig ((mrow (rq inv ws) ms (ws.take 4) 0).1.headD 0 :: (mrow (rq inv ws) ms (ws.take 4) 0).1.tail) := by rw [← e0]; exact e2
    exact this.head
  have hv0 : val (mrow (rq inv ws) ms (ws.take 4) 0).1 = (mrow (rq inv ws) ms (ws.take 4) 0).1.headD 0 + B * val (mrow (rq inv ws) ms (ws.take 4) 0).1.tail := by
    conv => lhs; rw [e0]
    rfl
  have hz : (mrow (rq inv ws) ms (ws.take 4) 0).1.headD 0 = 0 := by
    have hws : val (ws.take 4) % B = ws.headD 0 % B := by
      cases ws with
      | nil => simp at hwl
      | cons x l => simp only [List.take_succ_cons, val, List.headD_cons]; rw [Nat.add_mul_mod_self_left]
    have h4 : B ^ ms.length = B * B ^ 3 := by rw [hml]; decide
    rw [hv0, h4] at e1
    have e1' := congrArg (· % B) e1
    rw [Nat.add_assoc, Nat.mul_assoc, ← Nat.mul_add, Nat.add_mul_mod_self_left, Nat.mod_eq_of_lt hd0, Nat.add_zero] at e1'
    rw [e1', Nat.add_mod, hws, ← Nat.add_mod]
    have : rq inv ws * val ms % B = ws.headD 0 * (val ms * inv) % B := by
      unfold rq
      rw [Nat.mod_mul_mod]
      congr 1
      rw [Nat.mul_comm (val ms), Nat.mul_assoc]
    rw [Nat.add_mod, this, ← Nat.add_mod, show ws.headD 0 * (val ms * inv) + ws.headD 0 = ws.headD 0 * (val ms * inv + 1) by rw [Nat.mul_add, Nat.mul_one], Nat.mul_mod, hinv, Nat.mul_zero, Nat.zero_mod]
  have ht : (mrow (rq inv ws) ms (ws.take 4) 0).1.tail.length = 3 := by rw [List.length_tail, e3, hml]
  refine ⟨?_, Dig.append (fun x hx => e2 x (List.mem_of_mem_tail hx)) p2, ?_, hle⟩
  · unfold rws rprop rrow
    rw [val_append, ht]
    rw [hz, Nat.zero_add] at hv0
    rw [hv0, hml] at e1
    rw [List.length_drop, hwl, show n + 5 - 4 = n + 1 by omega] at p1
    rw [hv, show B ^ (n + 4) = B ^ 3 * B ^ (n + 1) by rw [← Nat.pow_add]; congr 1; omega, show B ^ (n + 5) = B ^ 4 * B ^ (n + 1) by rw [← Nat.pow_add]; congr 1; omega]
    have h43 : B ^ 4 = B * B ^ 3 := by decide
    generalize (mrow (rq inv ws) ms (ws.take 4) 0).1.tail = A at *
    generalize (mrow (rq inv ws) ms (ws.take 4) 0).2 = c at *
    generalize hpp : (prop (ws.drop 4) c) = pp at *
    generalize rq inv ws * val ms = qm at *
    have p1' := congrArg (B ^ 4 * ·) p1
    simp only [Nat.mul_add] at p1'
    rw [h43] at e1 p1' ⊢
    generalize B ^ 3 = b3 at *
    generalize B ^ (n + 1) = bn at *
    simp only [Nat.mul_add, Nat.mul_assoc] at e1 p1' ⊢
    rw [Nat.mul_left_comm]
    rw [Nat.mul_left_comm] at e1 p1'
    grind
  · unfold rws rprop rrow
    rw [List.length_append, ht, p3, List.length_drop, hwl]
    omega


def rst (inv : Nat) (ms : List Nat) : Nat → List Nat → Nat → List Nat × Nat
  | 0, ws, top => (ws, top)
  | n + 1, ws, top => rst inv ms n (rws inv ms ws) (top + (rprop inv ms ws).2)

theorem rst_spec {inv : Nat} {ms : List Nat} (hm : Dig ms) (hml : ms.length = 4) (hinv : (val ms * inv + 1) % B = 0) : ∀ (n : Nat) (ws : List Nat) (top : Nat), Dig ws → ws.length = n + 4 →
    ∃ q, q < B ^ n ∧ B ^ n * (val (rst inv ms n ws top).1 + B ^ 4 * (rst inv ms n ws top).2) = q * val ms + (val ws + B ^ (n + 4) * top) ∧ Dig (rst inv ms n ws top).1 ∧ (rst inv ms n ws top).1.length = 4
  | 0, ws, top, hw, hl => ⟨0, by simp, by simp [rst], hw, hl⟩
  | n + 1, ws, top, hw, hl => by
    obtain ⟨r1, r2, r3, r4⟩ := round_spec (n := n) (top := top) hm hml hw (by omega) hinv
    obtain ⟨q, q1, q2, q3, q4⟩ := rst_spec hm hml hinv n (rws inv ms ws) (top + (rprop inv ms ws).2) r2 r3
    have hq : rq inv ws < B := Nat.mod_lt _ B_pos
    refine ⟨rq inv ws + B * q, ?_, ?_, q3, q4⟩
    · have : B * (q + 1) ≤ B * B ^ n := Nat.mul_le_mul_left B q1
      rw [Nat.pow_succ, Nat.mul_comm (B ^ n)]
      rw [Nat.mul_add] at this
      omega
    · show B ^ (n + 1) * (val (rst inv ms n (rws inv ms ws) (top + (rprop inv ms ws).2)).1 + B ^ 4 * (rst inv ms n (rws inv ms ws) (top + (rprop inv ms ws).2)).2) = _
      rw [Nat.pow_succ, Nat.mul_comm (B ^ n) B, Nat.mul_assoc, q2, Nat.mul_add, r1, Nat.add_mul, Nat.mul_assoc]
      rw [show n + 1 + 4 = n + 5 by omega]
      omega

theorem redRecs_ok {inv : Nat} {ms : List Nat} (w : World) (hm : Dig ms) (hml : ms.length = 4) (hinv : (val ms * inv + 1) % B = 0) : ∀ (n : Nat) (ws : List Nat) (top : Nat), Dig ws → ws.length = n + 4 → top + n < B →
    RecsOk w (redRecs inv ms n ws top)
  | 0, _, _, _, _, _ => trivial
  | n + 1, ws, top, hw, hl, ht => by
    obtain ⟨r1, r2, r3, r4⟩ := round_spec (n := n) (top := top) hm hml hw (by omega) hinv
    have hq : rq inv ws < B := Nat.mod_lt _ B_pos
    refine ⟨rn_ok ?_, (mrecs_ok 50 55 59 68 w hq ms (ws.take 4) 0 hm (dig_take hw 4) B_pos).append ((propRecs_ok 83 w _ _).append ⟨rn_ok ?_, redRecs_ok w hm hml hinv n _ _ r2 r3 (by omega)⟩)⟩
    · rw [← Int.natCast_mul, wrapU]
      unfold rq U B
      congr 1
    · rw [← Int.natCast_add, wrap_in (by omega)]

/-- R^-1 w mod m -/
def redc (m w : Nat) : Nat := w * ((m + 1) / 2) ^ 256 % m

theorem redc_uniq {m v w : Nat} (hodd : m % 2 = 1) (h1 : 1 < m) (hv : v < m) (h : v * R % m = w % m) : v = redc m w := by
  have h2 : (m + 1) / 2 * 2 = m + 1 := by omega
  have h3 : R * ((m + 1) / 2) ^ 256 % m = 1 := by
    rw [show R = 2 ^ 256 from by decide, ← Nat.mul_pow, Nat.mul_comm 2, h2, Nat.pow_mod, Nat.add_mod_left, Nat.mod_eq_of_lt h1, Nat.one_pow, Nat.mod_eq_of_lt h1]
  unfold redc
  rw [← Nat.mod_mul_mod, ← h, Nat.mod_mul_mod, Nat.mul_assoc, Nat.mul_mod, h3, Nat.mul_one, Nat.mod_mod, Nat.mod_eq_of_lt hv]
theorem redc_lt {m w : Nat} (h1 : 1 < m) : redc m w < m := Nat.mod_lt _ (by omega)

theorem red_end {m inv w : Nat} (hm : m < R) (hodd : m % 2 = 1) (h1 : 1 < m) (hinv : (m * inv + 1) % B = 0) (hw : w < m * R) :
    ∃ t top, rst inv (L4 m) 4 (digs 8 w) 0 = (L4 t, top) ∧ t < R ∧ ((top = 0 ∧ t < m ∧ redc m w = t) ∨ (top = 0 ∧ m ≤ t ∧ redc m w = (t + R - m) % R) ∨ (top = 1 ∧ t < m ∧ redc m w = (t + R - m) % R)) := by
  have hwR : w < B ^ 8 := by
    have : m * R ≤ R * R := Nat.mul_le_mul_right R (by omega)
    have : R * R = B ^ 8 := by decide
    omega
  obtain ⟨q, q1, q2, q3, q4⟩ := rst_spec (inv := inv) (L4_dig m) rfl (by rw [L4_val hm]; exact hinv) 4 (digs 8 w) 0 (digs_dig 8 w) (digs_length 8 w)
  rw [L4_val hm, val_digs, Nat.mod_eq_of_lt hwR, Nat.mul_zero, Nat.add_zero, ← R_eq] at q2
  have q5 := val_lt _ q3
  rw [q4, ← R_eq] at q5
  refine ⟨val (rst inv (L4 m) 4 (digs 8 w) 0).1, (rst inv (L4 m) 4 (digs 8 w) 0).2, ?_, q5, ?_⟩
  · have := digs_val _ q3
    rw [q4] at this
    exact Prod.ext this.symm rfl
  · generalize val (rst inv (L4 m) 4 (digs 8 w) 0).1 = t at *
    generalize (rst inv (L4 m) 4 (digs 8 w) 0).2 = top at *
    have hqm : (q + 1) * m ≤ R * m := Nat.mul_le_mul_right m (by rw [R_eq]; exact q1)
    rw [Nat.add_mul, Nat.one_mul] at hqm
    have hlt : R * (t + R * top) < R * (2 * m) := by
      rw [q2, show R * (2 * m) = R * m + R * m by rw [← Nat.mul_add]; congr 1; omega]
      rw [Nat.mul_comm m R] at hw
      omega
    have hT : t + R * top < 2 * m := Nat.lt_of_mul_lt_mul_left hlt
    have key : ∀ v, v < m → (v = t + R * top ∨ v + m = t + R * top) → redc m w = v := by
      intro v hv hor
      refine (redc_uniq hodd h1 hv ?_).symm
      have : (t + R * top) * R % m = w % m := by rw [Nat.mul_comm, q2, Nat.add_comm, Nat.add_mul_mod_self_right]
      rcases hor with rfl | h
      · exact this
      · rw [← h, Nat.add_mul, Nat.add_mul_mod_self_left] at this
        exact this
    have htop : top = 0 ∨ top = 1 := by
      have : top < 2 := by
        apply Nat.lt_of_mul_lt_mul_left (a := R)
        omega
      omega
    rcases htop with rfl | rfl
    · by_cases hlt : t < m
      · exact .inl ⟨rfl, hlt, key t hlt (by simp)⟩
      · refine .inr (.inl ⟨rfl, by omega, ?_⟩)
        rw [show t + R - m = (t - m) + R by omega, Nat.add_mod_right, Nat.mod_eq_of_lt (by omega)]
        exact key (t - m) (by omega) (.inr (by omega))
    · refine .inr (.inr ⟨rfl, by omega, ?_⟩)
      rw [Nat.mod_eq_of_lt (by omega)]
      exact key (t + R - m) (by omega) (.inr (by omega))

theorem or_sel {a b c : Nat} (h : (a = 0 ∧ b = 0 ∧ c = 1) ∨ (a = 0 ∧ b = 1 ∧ c = 0) ∨ (a = 1 ∧ b = 1 ∧ c = 1) ∨ (a = 1 ∧ b = 0 ∧ c = 1)) : (.int .u64 (bits .or .u64 (a : Nat) (IntKind.u64.wrap (1 - ((b : Nat) : Int)))) : Value) = U c := by
  rcases h with ⟨rfl, rfl, rfl⟩ | ⟨rfl, rfl, rfl⟩ | ⟨rfl, rfl, rfl⟩ | ⟨rfl, rfl, rfl⟩ <;> kernel_rfl

theorem f129_raw {g m r2 inv w s x c : Nat} {v : Nat} (hm : m < R) (hinv : (m * inv + 1) % B = 0)
    (h118 : Pure 118 [aggU (rst inv (L4 m) 4 (digs 8 w) 0).1, NV m] (.tuple #[NV x, U c])) (hs : (.int .u64 (bits .or .u64 ((rst inv (L4 m) 4 (digs 8 w) 0).2 : Nat) (IntKind.u64.wrap (1 - ((c : Nat) : Int)))) : Value) = U s)
    (h119 : Pure 119 [U s, NV x, aggU (rst inv (L4 m) 4 (digs 8 w) 0).1] (NV v)) : PureAt [montE g m r2 inv] 129 [PT g, WV w] (NV v) :=
  pureAt_of Try.func129 rfl 8 [(PT g, .at_ 0), (WV w, .no)] [montE g m r2 inv] (redRecs inv (L4 m) 4 (digs 8 w) 0 ++
    [pc 118 [aggU (rst inv (L4 m) 4 (digs 8 w) 0).1, NV m] (.tuple #[NV x, U c]), rn 112 (.int .u64 (bits .or .u64 ((rst inv (L4 m) 4 (digs 8 w) 0).2 : Nat) (IntKind.u64.wrap (1 - ((c : Nat) : Int))))) (U s), pc 119 [U s, NV x, aggU (rst inv (L4 m) 4 (digs 8 w) 0).1] (NV v)]) (NV v) rfl
    (fun w0 => (redRecs_ok w0 (L4_dig m) rfl (by rw [L4_val hm]; exact hinv) 4 (digs 8 w) 0 (digs_dig 8 w) (digs_length 8 w) (by decide)).append ⟨pc_ok h118, rn_ok hs, pc_ok h119, trivial⟩) (fun γ => by kernel_rfl)

theorem f129_ok {g m r2 inv w : Nat} (hm : m < R) (hodd : m % 2 = 1) (h1 : 1 < m) (hinv : (m * inv + 1) % B = 0) (hw : w < m * R) : PureAt [montE g m r2 inv] 129 [PT g, WV w] (NV (redc m w)) := by
  obtain ⟨t, top, e, ht, hc⟩ := red_end hm hodd h1 hinv hw
  have a118 := f118_ok ht hm
  have e4 : (rst inv (L4 m) 4 (digs 8 w) 0).1 = L4 t := by rw [e]
  have e5 : (rst inv (L4 m) 4 (digs 8 w) 0).2 = top := by rw [e]
  have eN : aggU (L4 t) = NV t := rfl
  rcases hc with ⟨rfl, h2, h3⟩ | ⟨rfl, h2, h3⟩ | ⟨rfl, h2, h3⟩
  · rw [if_pos h2] at a118
    exact f129_raw (s := 0) hm hinv (by rw [e4]; exact a118) (by rw [e5]; exact or_sel (.inr (.inl ⟨rfl, rfl, rfl⟩))) (by rw [e4, h3]; exact f119_zero _ _)
  · rw [if_neg (by omega)] at a118
    exact f129_raw (s := 1) hm hinv (by rw [e4]; exact a118) (by rw [e5]; exact or_sel (.inl ⟨rfl, rfl, rfl⟩)) (by rw [e4, h3]; exact f119_one _ _)
  · rw [if_pos h2] at a118
    exact f129_raw (s := 1) hm hinv (by rw [e4]; exact a118) (by rw [e5]; exact or_sel (.inr (.inr (.inl ⟨rfl, rfl, rfl⟩)))) (by rw [e4, h3]; exact f119_one _ _)

end Go.Proofs.Ytildcmggcbdhpaa

namespace Go.Proofs.Ytildcmggcbdhpaa
open Go.Ex Go.RowKit Lim

/-- a number in a block -/
def numE (g a : Nat) (own : Bool) : Ent := ⟨g, [U (l0 a), U (l1 a), U (l2 a), U (l3 a)], [], 24, own⟩

structure Mont (m r2 inv : Nat) : Prop where
  lt : m < R
  odd : m % 2 = 1
  one : 1 < m
  inv : (m * inv + 1) % B = 0
  r2 : r2 = R * R % m

/-- (limb.Mont).below -/
theorem f128_raw {g m r2 inv k a : Nat} (hm : m < R) (ha : a < R) : PureAt [montE g m r2 inv, numE k a false] 128 [PT g, PT k] (.bool (decide (((if a < m then 1 else 0 : Nat) : Int) = 1))) :=
  pureAt_of Try.func128 rfl 8 [(PT g, .at_ 0), (PT k, .at_ 1)] [montE g m r2 inv, numE k a false] [pc 118 [NV a, NV m] (.tuple #[NV ((a + R - m) % R), U (if a < m then 1 else 0)])] _ rfl
    (fun _ => ⟨pc_ok (f118_ok ha hm), trivial⟩) (fun γ => by kernel_rfl)
theorem f128_ok {g m r2 inv k a : Nat} (hm : m < R) (ha : a < m) : PureAt [montE g m r2 inv, numE k a true] 128 [PT g, PT k] (.bool true) := by
  have h := f128_raw (g := g) (m := m) (r2 := r2) (inv := inv) (k := k) (a := a) hm (by omega)
  rw [if_pos ha] at h
  refine h.of fun w hw e he => ?_
  simp only [List.mem_cons, List.not_mem_nil, or_false] at he
  rcases he with rfl | rfl
  · exact hw _ (by simp)
  · exact (hw (numE k a true) (by simp)).weak rfl rfl rfl rfl

/-- (limb.Mont).Mul -/
theorem f103_ok {g m r2 inv a b : Nat} (h : Mont m r2 inv) (ha : a < m) (hb : b < m) : PureAt [montE g m r2 inv] 103 [PT g, NV a, NV b] (.tuple #[NV (redc m (a * b)), I 0]) :=
  pureAt_of Try.func103 rfl 8 [(PT g, .at_ 0), (NV a, .no), (NV b, .no)] [montE g m r2 inv] [lc 128 (fun σ => [PT g, PT (σ 1)]) (fun σ => [(0, montE g m r2 inv), (1, numE (σ 1) a true)]) (.bool true),
      lc 128 (fun σ => [PT g, PT (σ 2)]) (fun σ => [(0, montE g m r2 inv), (2, numE (σ 2) b true)]) (.bool true), pc 116 [NV a, NV b] (WV (a * b)), mc 129 [PT g, WV (a * b)] [(0, montE g m r2 inv)] (NV (redc m (a * b)))] _ rfl
    (fun _ => ⟨lc_ok fun σ => f128_ok h.lt ha, lc_ok fun σ => f128_ok h.lt hb, pc_ok (f116_ok (by have := h.lt; omega) (by have := h.lt; omega)),
      mc_ok (f129_ok h.lt h.odd h.one h.inv (Nat.mul_lt_mul'' ha (by have := h.lt; omega))), trivial⟩) (fun γ => by kernel_rfl)

/-- (limb.Mont).To -/
theorem f100_raw {g m r2 inv a : Nat} (h : Mont m r2 inv) (ha : a < m) : PureAt [montE g m r2 inv] 100 [PT g, NV a] (.tuple #[NV (redc m (a * r2)), I 0]) :=
  have hr : r2 < m := by rw [h.r2]; exact Nat.mod_lt _ (by have := h.one; omega)
  pureAt_of Try.func100 rfl 8 [(PT g, .at_ 0), (NV a, .no)] [montE g m r2 inv] [lc 128 (fun σ => [PT g, PT (σ 1)]) (fun σ => [(0, montE g m r2 inv), (1, numE (σ 1) a true)]) (.bool true),
      pc 116 [NV a, NV r2] (WV (a * r2)), mc 129 [PT g, WV (a * r2)] [(0, montE g m r2 inv)] (NV (redc m (a * r2)))] _ rfl
    (fun _ => ⟨lc_ok fun σ => f128_ok h.lt ha, pc_ok (f116_ok (by have := h.lt; omega) (by have := h.lt; omega)),
      mc_ok (f129_ok h.lt h.odd h.one h.inv (Nat.mul_lt_mul'' ha (by have := h.lt; omega))), trivial⟩) (fun γ => by kernel_rfl)

/-- (limb.Mont).From -/
theorem f101_ok {g m r2 inv a : Nat} (h : Mont m r2 inv) (ha : a < m) : PureAt [montE g m r2 inv] 101 [PT g, NV a] (.tuple #[NV (redc m a), I 0]) := by
  have hlt := h.lt
  have haR : a < R := by omega
  have e : WV a = .agg #[U (l0 a), U (l1 a), U (l2 a), U (l3 a), U 0, U 0, U 0, U 0] := by
    have hd : Dig [l0 a, l1 a, l2 a, l3 a, 0, 0, 0, 0] := (dig4 a).append (m := [0, 0, 0, 0]) (fun x hx => by simp at hx; subst hx; exact B_pos)
    rw [WV_mk hd]
    congr 1
    rw [show [l0 a, l1 a, l2 a, l3 a, 0, 0, 0, 0] = [l0 a, l1 a, l2 a, l3 a] ++ [0, 0, 0, 0] from rfl, val_append, val4, ← R_eq, Nat.mod_eq_of_lt haR]
    simp [val]
  have h129 := f129_ok (g := g) (r2 := r2) h.lt h.odd h.one h.inv (w := a) (by have := h.one; rw [Nat.mul_comm]; exact Nat.lt_of_lt_of_le haR (Nat.le_mul_of_pos_right _ (by omega)))
  rw [e] at h129
  exact pureAt_of Try.func101 rfl 8 [(PT g, .at_ 0), (NV a, .no)] [montE g m r2 inv] [lc 128 (fun σ => [PT g, PT (σ 1)]) (fun σ => [(0, montE g m r2 inv), (1, numE (σ 1) a true)]) (.bool true),
      mc 129 [PT g, .agg #[U (l0 a), U (l1 a), U (l2 a), U (l3 a), U 0, U 0, U 0, U 0]] [(0, montE g m r2 inv)] (NV (redc m a))] _ rfl
    (fun _ => ⟨lc_ok fun σ => f128_ok h.lt ha, mc_ok h129, trivial⟩) (fun γ => by kernel_rfl)

theorem redc_mul {m r2 inv a : Nat} (h : Mont m r2 inv) : redc m (a * r2) = a * R % m := by
  have h1 := h.one
  refine (redc_uniq h.odd h.one (Nat.mod_lt _ (by omega)) ?_).symm
  rw [h.r2, Nat.mod_mul_mod, Nat.mul_mod_mod, Nat.mul_assoc]

theorem f100_ok {g m r2 inv a : Nat} (h : Mont m r2 inv) (ha : a < m) : PureAt [montE g m r2 inv] 100 [PT g, NV a] (.tuple #[NV (a * R % m), I 0]) := by
  have := f100_raw (g := g) h ha
  rw [redc_mul h] at this
  exact this

/-- limb.Cmp -/
def cmpX (a b : Nat) : Value := .int .i64 (IntKind.i64.wrap (IntKind.i64.wrap ((if b < a then 1 else 0 : Nat) : Int) - IntKind.i64.wrap ((if a < b then 1 else 0 : Nat) : Int)))
theorem f111_raw {a b : Nat} (ha : a < R) (hb : b < R) : Pure 111 [NV a, NV b] (cmpX a b) :=
  pure_of Try.func111 rfl 8 _ [pc 132 [.func (.func 133) #[] #[], NV a, NV b] (U (if a < b then 1 else 0)), pc 132 [.func (.func 133) #[] #[], NV b, NV a] (U (if b < a then 1 else 0))] _
    (fun _ => ⟨pc_ok (f132_ok ha hb), pc_ok (f132_ok hb ha), trivial⟩) (fun γ => by kernel_rfl)
def cmpN (a b : Nat) : Int := if a < b then -1 else if b < a then 1 else 0
theorem f111_ok {a b : Nat} (ha : a < R) (hb : b < R) : Pure 111 [NV a, NV b] (I (cmpN a b)) := by
  have h := f111_raw ha hb
  have e : cmpX a b = I (cmpN a b) := by
    unfold cmpX cmpN
    by_cases h1 : a < b
    · rw [if_pos h1, if_pos h1, if_neg (by omega)]; rfl
    · by_cases h2 : b < a
      · rw [if_neg h1, if_neg h1, if_pos h2, if_pos h2]; rfl
      · rw [if_neg h1, if_neg h1, if_neg h2, if_neg h2]; rfl
  rw [e] at h
  exact h

end Go.Proofs.Ytildcmggcbdhpaa

namespace Go.Proofs.Ytildcmggcbdhpaa
open Go.Ex Go.RowKit Lim

/-- what an operation answers, in slot d -/
def opF (d : Nat) (s : Sem Value) (v : Value) : Rec := .fact d (fun _ => []) (fun _ => do pure (.value (← s))) v
theorem opF_ok {w0 : World} {d : Nat} {s : Sem Value} {v : Value} (h : ∀ w, s.run Try.prog w = .ok v w) : (opF d s v).Ok Try.prog w0 := fun _ w _ _ => by
  show (s.bind fun v => .pure (Next.value v)).run Try.prog w = _
  have := Sem.run_bind (P := Try.prog) (w := w) s (fun v => Sem.pure (Next.value v))
  rw [show s.bind (fun v => Sem.pure (Next.value v)) = (s >>= fun v => Sem.pure (Next.value v)) from rfl, Sem.run_bind, h w]
  rfl

def nums (l : List Int) : Value := .agg (l.map fun n => .int .u64 n).toArray
theorem part_num (x0 x1 x2 x3 : Int) (w : World) : ∀ i, i < 4 → (part 22 #[.int .u64 x0, .int .u64 x1, .int .u64 x2, .int .u64 x3] (i * 1)).run Try.prog w = .ok (.int .u64 ([x0, x1, x2, x3].getD i 0)) w
  | 0, _ => by kernel_rfl
  | 1, _ => by kernel_rfl
  | 2, _ => by kernel_rfl
  | 3, _ => by kernel_rfl

theorem eq24_int (x0 x1 x2 x3 y0 y1 y2 y3 : Int) (w : World) :
    (Op.equal 24 (.agg #[.int .u64 x0, .int .u64 x1, .int .u64 x2, .int .u64 x3]) (.agg #[.int .u64 y0, .int .u64 y1, .int .u64 y2, .int .u64 y3])).run Try.prog w = .ok (x0 == y0 && (x1 == y1 && (x2 == y2 && x3 == y3))) w := by
  have hu : Try.prog.underlying 24 = some (.array 4 22) := by kernel_rfl
  have h22 : Try.prog.underlying 22 = some (.int .u64) := by kernel_rfl
  have hi : (Try.prog.info? 22).isSome = true := by kernel_rfl
  have hc : Try.prog.cellsOf 22 = 1 := by kernel_rfl
  obtain ⟨i, hi⟩ := Option.isSome_iff_exists.1 hi
  show (Op.equalIn (9999 + 1) 24 _ _).run Try.prog w = _
  rw [run_equalIn_array w 9999 _ _ hu hi, hc]
  show (Op.eqItems 9999 22 1 _ _ [0, 1, 2, 3]).run Try.prog w = _
  simp only [Op.eqItems, Sem.run_bind, Sem.run_ite, Sem.run_pure, part_num _ _ _ _ _ 0 (by decide), part_num _ _ _ _ _ 1 (by decide), part_num _ _ _ _ _ 2 (by decide), part_num _ _ _ _ _ 3 (by decide), Result.andThen_ok,
    show (9999 : Nat) = 9998 + 1 from rfl, run_equalIn_int _ _ _ _ _ _ _ h22]
  simp only [List.getD_cons_zero, List.getD_cons_succ]
  cases h0 : x0 == y0
  · simp
  · cases h1 : x1 == y1
    · simp
    · cases h2 : x2 == y2
      · simp
      · cases h3 : x3 == y3 <;> simp

theorem NV_inj {a b : Nat} (ha : a < R) (hb : b < R) : (((l0 a : Nat) : Int) == (l0 b : Nat) && (((l1 a : Nat) : Int) == (l1 b : Nat) && (((l2 a : Nat) : Int) == (l2 b : Nat) && ((l3 a : Nat) : Int) == (l3 b : Nat)))) = decide (a = b) := by
  rw [Bool.eq_iff_iff]
  simp only [Bool.and_eq_true, beq_iff_eq, decide_eq_true_eq, Int.natCast_inj]
  constructor
  · rintro ⟨h0, h1, h2, h3⟩
    have e1 := L4_val ha
    have e2 := L4_val hb
    unfold L4 at e1 e2
    rw [h0, h1, h2, h3] at e1
    rw [← e1, e2]
  · rintro rfl
    exact ⟨rfl, rfl, rfl, rfl⟩

theorem eq24 {a b : Nat} (ha : a < R) (hb : b < R) (w : World) : (Op.equal 24 (NV a) (NV b)).run Try.prog w = .ok (decide (a = b)) w := by
  have h := eq24_int (l0 a) (l1 a) (l2 a) (l3 a) (l0 b) (l1 b) (l2 b) (l3 b) w
  rw [NV_inj ha hb] at h
  exact h

/-- a comparison of two numbers, in slot d -/
def eqS (a b : Nat) : Sem Value := do eqGuard .eql 24 (.tmp 0) (.tmp 0) (NV a) (NV b); binOp .eql 24 (NV a) (NV b)
def eqF (d a b : Nat) : Rec := opF d (eqS a b) (.bool (decide (a = b)))
theorem guard24 (x y : Operand) (a b : Nat) (w : World) : (eqGuard .eql 24 x y (NV a) (NV b)).run Try.prog w = .ok () w := by
  have : Try.prog.eqGuardType Try.prog.depth 24 = false := by kernel_rfl
  unfold eqGuard NV
  simp [this]
theorem eqF_ok {w0 : World} {d a b : Nat} (ha : a < R) (hb : b < R) : (eqF d a b).Ok Try.prog w0 := opF_ok fun w => by
  unfold eqS
  rw [Sem.run_bind, guard24, Result.andThen_ok]
  have e : binOp .eql 24 (NV a) (NV b) = (do pure (.bool (← Op.equal 24 (NV a) (NV b)))) := by kernel_rfl
  rw [e, Sem.run_bind, eq24 ha hb]
  rfl

end Go.Proofs.Ytildcmggcbdhpaa

namespace Go.Proofs.Ytildcmggcbdhpaa
open Go.Ex Go.RowKit Lim

def shrS (x j : Nat) : Sem Value := Op.shift .shr .u64 (x : Int) .i64 (j : Int)
def shrF (d x j : Nat) : Rec := opF d (shrS x j) (U (x / 2 ^ j))
theorem shrF_ok {w0 : World} {d x j : Nat} (hj : j ≤ 64) : (shrF d x j).Ok Try.prog w0 := opF_ok fun w => by
  have e : (2 : Int) ^ j = ((2 ^ j : Nat) : Int) := by rw [Int.natCast_pow]; rfl
  unfold shrS
  rw [shift_shr _ _ _ _ (by omega) (by show (j : Int) ≤ (64 : Nat); omega), Int.toNat_natCast, e, ← Int.natCast_ediv]
  rfl

theorem and_one (x : Nat) (hx : x < B) : (.int .u64 (bits .and .u64 (x : Nat) 1) : Value) = U (x % 2) := by
  have h := u64_and_nat x 1 (by unfold B at hx; exact hx) (by decide)
  rw [Nat.and_one_is_mod] at h
  rw [show ((1 : Nat) : Int) = 1 from rfl] at h
  rw [h]

theorem wrap64 {n : Nat} (h : n < 9223372036854775808) : IntKind.i64.wrap (n : Int) = n := by
  simp [IntKind.wrap, IntKind.bits, IntKind.signed]
  omega

def qX (i : Nat) : Value := .int .i64 (IntKind.i64.wrap (Int.tdiv (i : Int) 64))
theorem qX_eq {d j : Nat} (hj : j < 64) (hd : d < 1000) : qX (64 * d + j) = I (d : Nat) := by
  unfold qX
  rw [Int.tdiv_eq_ediv_of_nonneg (by omega), show ((64 * d + j : Nat) : Int) / 64 = ((64 * d + j) / 64 : Nat) from rfl, show (64 * d + j) / 64 = d by omega, wrap64 (by omega)]
def rX (i : Nat) : Value := .int .i64 (Int.tmod (i : Int) 64)
theorem rX_eq {d j : Nat} (hj : j < 64) : rX (64 * d + j) = I (j : Nat) := by
  unfold rX
  rw [Int.tmod_eq_emod_of_nonneg (by omega), show ((64 * d + j : Nat) : Int) % 64 = ((64 * d + j) % 64 : Nat) from rfl, show (64 * d + j) % 64 = j by omega]

def bitN (a i : Nat) : Nat := a / 2 ^ i % 2

theorem digit_bit (a : Nat) {j : Nat} (hj : j < 64) : a % B / 2 ^ j % 2 = a / 2 ^ j % 2 := by
  have e : B = 2 ^ j * 2 ^ (64 - j) := by rw [← Nat.pow_add, show j + (64 - j) = 64 by omega]; rfl
  rw [e, Nat.mod_mul_right_div_self, Nat.mod_mod_of_dvd]
  exact ⟨2 ^ (63 - j), by rw [show 64 - j = (63 - j) + 1 by omega, Nat.pow_succ, Nat.mul_comm]⟩

theorem div_B (a d j : Nat) : a / B ^ d / 2 ^ j = a / 2 ^ (64 * d + j) := by
  rw [Nat.div_div_eq_div_mul, show B = 2 ^ 64 from by decide, ← Nat.pow_mul, ← Nat.pow_add]

theorem bit_d (a : Nat) {d j : Nat} (hj : j < 64) : a / B ^ d % B / 2 ^ j % 2 = bitN a (64 * d + j) := by
  rw [digit_bit _ hj, div_B]; rfl

theorem l1_eq (a : Nat) : l1 a = a / B ^ 1 % B := by rw [Nat.pow_one]; rfl
theorem l2_eq (a : Nat) : l2 a = a / B ^ 2 % B := by rw [show B ^ 2 = B * B from rfl, ← Nat.div_div_eq_div_mul]; rfl
theorem l3_eq (a : Nat) : l3 a = a / B ^ 3 % B := by rw [show B ^ 3 = B * B * B from rfl, ← Nat.div_div_eq_div_mul, ← Nat.div_div_eq_div_mul]; rfl
theorem l0_eq (a : Nat) : l0 a = a / B ^ 0 % B := by rw [Nat.pow_zero, Nat.div_one]; rfl

def ltX (i : Nat) : Value := .bool (decide ((i : Int) < 0))
def gtX (i : Nat) : Value := .bool (decide ((i : Int) > 255))
theorem ltX_eq (i : Nat) : ltX i = .bool false := by unfold ltX; rw [decide_eq_false (by omega)]
theorem gtX_eq {i : Nat} (h : i < 256) : gtX i = .bool false := by unfold gtX; rw [decide_eq_false (by omega)]

def bitRecs (i d j x : Nat) : List Rec := [rn 6 (ltX i) (.bool false), rn 9 (gtX i) (.bool false), rn 12 (qX i) (I (d : Nat)), rn 16 (rX i) (I (j : Nat)), shrF 17 x j, rn 18 (.int .u64 (bits .and .u64 (x / 2 ^ j : Nat) 1)) (U (x / 2 ^ j % 2))]
theorem bitRecs_ok {d j x : Nat} (w : World) (hd : d < 4) (hj : j < 64) (hx : x < B) : RecsOk w (bitRecs (64 * d + j) d j x) :=
  ⟨rn_ok (ltX_eq _), rn_ok (gtX_eq (by omega)), rn_ok (qX_eq hj (by omega)), rn_ok (rX_eq hj), shrF_ok (by omega), rn_ok (and_one _ (Nat.lt_of_le_of_lt (Nat.div_le_self _ _) hx)), trivial⟩

/-- limb.Bit -/
theorem f114_ok (a : Nat) {i : Nat} (hi : i < 256) : Pure 114 [NV a, I (i : Nat)] (U (bitN a i)) := by
  obtain ⟨d, j, hd, hj, rfl⟩ : ∃ d j, d < 4 ∧ j < 64 ∧ i = 64 * d + j := ⟨i / 64, i % 64, by omega, by omega, by omega⟩
  match d, hd with
  | 0, _ =>
    rw [← bit_d a (d := 0) hj, ← l0_eq]
    exact pure_of Try.func114 rfl 8 _ (bitRecs (64 * 0 + j) 0 j (l0 a)) _ (fun w => bitRecs_ok w (by decide) hj (l0_lt a)) (fun γ => by kernel_rfl)
  | 1, _ =>
    rw [← bit_d a (d := 1) hj, ← l1_eq]
    exact pure_of Try.func114 rfl 8 _ (bitRecs (64 * 1 + j) 1 j (l1 a)) _ (fun w => bitRecs_ok w (by decide) hj (l1_lt a)) (fun γ => by kernel_rfl)
  | 2, _ =>
    rw [← bit_d a (d := 2) hj, ← l2_eq]
    exact pure_of Try.func114 rfl 8 _ (bitRecs (64 * 2 + j) 2 j (l2 a)) _ (fun w => bitRecs_ok w (by decide) hj (l2_lt a)) (fun γ => by kernel_rfl)
  | 3, _ =>
    rw [← bit_d a (d := 3) hj, ← l3_eq]
    exact pure_of Try.func114 rfl 8 _ (bitRecs (64 * 3 + j) 3 j (l3 a)) _ (fun w => bitRecs_ok w (by decide) hj (l3_lt a)) (fun γ => by kernel_rfl)

end Go.Proofs.Ytildcmggcbdhpaa

namespace Go.Proofs.Ytildcmggcbdhpaa
open Go.Ex Go.RowKit Lim

/-- the loops of a function, in the text's order -/
def loopsOf : Code → List Code
  | .seq a b => loopsOf a ++ loopsOf b
  | .cond _ a b => loopsOf a ++ loopsOf b
  | .block _ c => loopsOf c
  | .loop c => c :: loopsOf c
  | _ => []

def look {α : Type} (i : Nat) : List (Nat × α) → Option α
  | [] => none
  | (k, v) :: l => bif Nat.beq k i then some v else look i l
def frOf (n : Nat) (l : List (Nat × Value)) : List (Option Value) := (List.range n).map fun i => look i l
def tgOf (n : Nat) (l : List (Nat × Tag)) : List Tag := (List.range n).map fun i => (look i l).getD .no

def wideE (g w : Nat) (own : Bool) : Ent := ⟨g, [U (l0 w), U (l1 w), U (l2 w), U (l3 w), U (l4 w), U (l5 w), U (l6 w), U (l7 w)], [], 116, own⟩

/-- a number, less one -/
def V8 : Nat → Value
  | 0 => I (-1)
  | n + 1 => I (n : Nat)

def modL (w m : Nat) (gl : List Nat) (k : Nat) : St :=
  ⟨frOf 67 [(2, PT (gl.getD 0 0)), (3, PT (gl.getD 1 0)), (4, PT (gl.getD 2 0)), (6, PT (gl.getD 3 0)), (8, V8 k)], tgOf 67 [(2, .at_ 0), (3, .at_ 1), (4, .at_ 2), (6, .at_ 3)],
    [wideE (gl.getD 0 0) w true, numE (gl.getD 1 0) m true, numE (gl.getD 2 0) 0 true, numE (gl.getD 3 0) (w / 2 ^ k % m) true]⟩
noncomputable def modC : Code := (loopsOf (Fx Try.f115)).getD 1 .skip

def geX (n : Nat) : Value := .bool (decide ((n : Int) ≥ 0))
theorem geX_eq (n : Nat) : geX n = .bool true := by unfold geX; rw [decide_eq_true (by omega)]
def decX (n : Nat) : Value := .int .i64 (IntKind.i64.wrap ((n : Int) - 1))
theorem decX_eq {n : Nat} (h : n < 1000) : decX n = V8 n := by
  unfold decX
  cases n with
  | zero => rfl
  | succ n => rw [show ((n + 1 : Nat) : Int) - 1 = (n : Nat) by omega, wrap64 (by omega)]; rfl

def modRecs (m r n d j x s b c y t r' over : Nat) : List Rec :=
  [rn 29 (geX n) (.bool true), rn 34 (.int .u64 (((l3 r : Nat) : Int).fdiv (2 ^ 63))) (U over), pc 117 [NV r, NV r] (.tuple #[NV s, U over]), rn 44 (qX n) (I (d : Nat)), rn 48 (rX n) (I (j : Nat)), shrF 49 x j,
    rn 50 (.int .u64 (bits .and .u64 (x / 2 ^ j : Nat) 1)) (U b), rn 51 (.int .u64 (bits .or .u64 (l0 s : Nat) (b : Nat))) (U (l0 (s + b))),
    pc 118 [.agg #[U (l0 (s + b)), U (l1 s), U (l2 s), U (l3 s)], NV m] (.tuple #[NV y, U c]), rn 62 (.int .u64 (bits .or .u64 (over : Nat) (IntKind.u64.wrap (1 - ((c : Nat) : Int))))) (U t),
    pc 119 [U t, NV y, .agg #[U (l0 (s + b)), U (l1 s), U (l2 s), U (l3 s)]] (NV r'), rn 31 (decX n) (V8 n)]


theorem l0_add {s b : Nat} (hs : s % 2 = 0) (hb : b ≤ 1) : l0 (s + b) = l0 s + b ∧ l1 (s + b) = l1 s ∧ l2 (s + b) = l2 s ∧ l3 (s + b) = l3 s := by
  have hB : B = 18446744073709551616 := rfl
  have e : (s + b) / B = s / B := by rw [hB]; omega
  refine ⟨?_, ?_, ?_, ?_⟩
  · unfold l0; rw [hB]; omega
  · unfold l1; rw [e]
  · unfold l2; rw [e]
  · unfold l3; rw [e]

theorem or_bit {x b : Nat} (hx : x < B) (h2 : x % 2 = 0) (hb : b ≤ 1) : (.int .u64 (bits .or .u64 (x : Nat) (b : Nat)) : Value) = U (x + b) := by
  have e := u64_or_nat x b (by unfold B at hx; exact hx) (by omega)
  rw [e]
  have : x ||| b = x + b := by
    have h := Nat.two_pow_add_eq_or_of_lt (i := 1) (b := b) (by omega) (x / 2)
    rw [Nat.pow_one, show 2 * (x / 2) = x by omega] at h
    exact h.symm
  rw [this]

theorem shr63 {r : Nat} (hr : r < R) : (.int .u64 (((l3 r : Nat) : Int).fdiv (2 ^ 63)) : Value) = U ((r + r) / R) := by
  have h3 := l3_lt r
  rw [Int.fdiv_eq_ediv_of_nonneg _ (by decide), show ((2 : Int) ^ 63) = ((2 ^ 63 : Nat) : Int) from rfl, ← Int.natCast_ediv]
  show U (l3 r / 2 ^ 63) = U _
  refine congrArg U ?_
  have e : l3 r = r / (B * B * B) := by
    unfold l3
    rw [Nat.div_div_eq_div_mul, Nat.div_div_eq_div_mul, ← Nat.mul_assoc, Nat.mod_eq_of_lt]
    apply Nat.div_lt_of_lt_mul
    rw [show B * B * B * B = R from by decide]
    exact hr
  rw [e, Nat.div_div_eq_div_mul, show B * B * B * 2 ^ 63 = 57896044618658097711785492504343953926634992332820282019728792003956564819968 from by decide]
  unfold R at *
  omega

theorem mod_arith {m r s b over y c t r' : Nat} (hm : m < R) (hr : r < m) (hb : b ≤ 1) (hs : s = (r + r) % R) (ho : over = (r + r) / R) (hy : y = (s + b + R - m) % R) (hc : c = if s + b < m then 1 else 0) (hr' : r' = (2 * r + b) % m) :
    ((over = 0 ∧ c = 0 ∧ t = 1) ∨ (over = 0 ∧ c = 1 ∧ t = 0) ∨ (over = 1 ∧ c = 1 ∧ t = 1) ∨ (over = 1 ∧ c = 0 ∧ t = 1)) ∧ ((t = 1 ∧ r' = y) ∨ (t = 0 ∧ r' = s + b)) ↔ ((over = 0 ∧ c = 0 ∧ t = 1) ∨ (over = 0 ∧ c = 1 ∧ t = 0) ∨ (over = 1 ∧ c = 1 ∧ t = 1) ∨ (over = 1 ∧ c = 0 ∧ t = 1)) := by
  refine ⟨fun h => h.1, fun h => ⟨h, ?_⟩⟩
  have hR : R = 115792089237316195423570985008687907853269984665640564039457584007913129639936 := rfl
  by_cases h1 : 2 * r + b < m
  · rw [Nat.mod_eq_of_lt h1] at hr'
    have : ¬ r + r ≥ R := by omega
    have e1 : s = r + r := by rw [hs, Nat.mod_eq_of_lt (by omega)]
    have e2 : over = 0 := by rw [ho, Nat.div_eq_of_lt (by omega)]
    rw [if_pos (by omega)] at hc
    right
    omega
  · have e3 : r' = 2 * r + b - m := by rw [hr', Nat.mod_eq_sub_mod (by omega), Nat.mod_eq_of_lt (by omega)]
    by_cases h2 : r + r < R
    · have e1 : s = r + r := by rw [hs, Nat.mod_eq_of_lt h2]
      have e2 : over = 0 := by rw [ho, Nat.div_eq_of_lt h2]
      rw [if_neg (by omega)] at hc
      left
      refine ⟨by omega, ?_⟩
      rw [e3, hy, e1, show r + r + b + R - m = (r + r + b - m) + R by omega, Nat.add_mod_right]
      by_cases h4 : r + r + b - m < R
      · rw [Nat.mod_eq_of_lt h4]; omega
      · omega
    · have e1 : s = r + r - R := by rw [hs, Nat.mod_eq_sub_mod (by omega), Nat.mod_eq_of_lt (by omega)]
      have e2 : over = 1 := by rw [ho]; apply Nat.div_eq_of_lt_le <;> omega
      left
      refine ⟨by omega, ?_⟩
      rw [e3, hy, e1, Nat.mod_eq_of_lt (by omega)]
      omega

theorem modRecs_ok {m r d j x b : Nat} (w0 : World) (hm : m < R) (hr : r < m) (hd : d < 8) (hj : j < 64) (hx : x < B) (hb : b = x / 2 ^ j % 2) :
    ∃ s c y t over, RecsOk w0 (modRecs m r (64 * d + j) d j x s b c y t ((2 * r + b) % m) over) := by
  have hb1 : b ≤ 1 := by omega
  have hrR : r < R := by omega
  have hs2 : (r + r) % R % 2 = 0 := by unfold R; omega
  obtain ⟨k0, k1, k2, k3⟩ := l0_add hs2 hb1
  have hsb : (r + r) % R + b < R := by
    have : (r + r) % R < R := Nat.mod_lt _ (by decide)
    unfold R at *
    omega
  have eN : (.agg #[U (l0 ((r + r) % R + b)), U (l1 ((r + r) % R)), U (l2 ((r + r) % R)), U (l3 ((r + r) % R))] : Value) = NV ((r + r) % R + b) := by
    unfold NV; rw [k1, k2, k3]
  have hor : (.int .u64 (bits .or .u64 (l0 ((r + r) % R) : Nat) (b : Nat)) : Value) = U (l0 ((r + r) % R + b)) := by
    rw [or_bit (l0_lt _) (by unfold l0 B; omega) hb1, k0]
  have hov : (r + r) / R ≤ 1 := by
    have : (r + r) / R < 2 := Nat.div_lt_of_lt_mul (by omega)
    omega
  have hc01 : ∀ p : Prop, [Decidable p] → (if p then 1 else 0 : Nat) = 0 ∨ (if p then 1 else 0 : Nat) = 1 := fun p _ => by split <;> simp
  have hcc := hc01 ((r + r) % R + b < m)
  have hsel : ∃ t, (((r + r) / R = 0 ∧ (if (r + r) % R + b < m then 1 else 0) = 0 ∧ t = 1) ∨ ((r + r) / R = 0 ∧ (if (r + r) % R + b < m then 1 else 0) = 1 ∧ t = 0) ∨ ((r + r) / R = 1 ∧ (if (r + r) % R + b < m then 1 else 0) = 1 ∧ t = 1) ∨ ((r + r) / R = 1 ∧ (if (r + r) % R + b < m then 1 else 0) = 0 ∧ t = 1)) := by
    rcases hcc with h | h <;> rw [h] <;> (have : (r + r) / R = 0 ∨ (r + r) / R = 1 := Nat.le_one_iff_eq_zero_or_eq_one.1 hov) <;> rcases this with h' | h' <;> rw [h'] <;> simp
  obtain ⟨t, ht⟩ := hsel
  have hfin := ((mod_arith (t := t) hm hr hb1 rfl rfl rfl rfl rfl).2 ht).2
  refine ⟨(r + r) % R, _, _, t, (r + r) / R, rn_ok (geX_eq _), rn_ok (shr63 hrR), pc_ok (f117_ok hrR hrR), rn_ok (qX_eq hj (by omega)), rn_ok (rX_eq hj), shrF_ok (by omega), rn_ok (by rw [hb]; exact and_one _ (Nat.lt_of_le_of_lt (Nat.div_le_self _ _) hx)), rn_ok hor,
    pc_ok (by rw [eN]; exact f118_ok hsb hm), rn_ok (or_sel ht), pc_ok ?_, rn_ok (decX_eq (by omega)), trivial⟩
  rw [eN]
  rcases hfin with ⟨rfl, h⟩ | ⟨rfl, h⟩
  · rw [h]; exact f119_one _ _
  · rw [h]; exact f119_zero _ _

end Go.Proofs.Ytildcmggcbdhpaa

namespace Go.Proofs.Ytildcmggcbdhpaa
open Go.Ex Go.RowKit Lim

def dg (w d : Nat) : Nat := [l0 w, l1 w, l2 w, l3 w, l4 w, l5 w, l6 w, l7 w].getD d 0
theorem dg_eq (w : Nat) : ∀ d, d < 8 → dg w d = w / B ^ d % B
  | 0, _ => by rw [Nat.pow_zero, Nat.div_one]; rfl
  | 1, _ => l1_eq w
  | 2, _ => l2_eq w
  | 3, _ => l3_eq w
  | 4, _ => by rw [show B ^ 4 = B * B * B * B from rfl, ← Nat.div_div_eq_div_mul, ← Nat.div_div_eq_div_mul, ← Nat.div_div_eq_div_mul]; rfl
  | 5, _ => by rw [show B ^ 5 = B * B * B * B * B from rfl, ← Nat.div_div_eq_div_mul, ← Nat.div_div_eq_div_mul, ← Nat.div_div_eq_div_mul, ← Nat.div_div_eq_div_mul]; rfl
  | 6, _ => by rw [show B ^ 6 = B * B * B * B * B * B from rfl, ← Nat.div_div_eq_div_mul, ← Nat.div_div_eq_div_mul, ← Nat.div_div_eq_div_mul, ← Nat.div_div_eq_div_mul, ← Nat.div_div_eq_div_mul]; rfl
  | 7, _ => by rw [show B ^ 7 = B * B * B * B * B * B * B from rfl, ← Nat.div_div_eq_div_mul, ← Nat.div_div_eq_div_mul, ← Nat.div_div_eq_div_mul, ← Nat.div_div_eq_div_mul, ← Nat.div_div_eq_div_mul, ← Nat.div_div_eq_div_mul]; rfl
theorem dg_lt {w d : Nat} (h : d < 8) : dg w d < B := by rw [dg_eq w d h]; exact Nat.mod_lt _ B_pos

def modS (w m : Nat) (gl : List Nat) (v : Value) (r : Nat) : St :=
  ⟨frOf 67 [(2, PT (gl.getD 0 0)), (3, PT (gl.getD 1 0)), (4, PT (gl.getD 2 0)), (6, PT (gl.getD 3 0)), (8, v)], tgOf 67 [(2, .at_ 0), (3, .at_ 1), (4, .at_ 2), (6, .at_ 3)],
    [wideE (gl.getD 0 0) w true, numE (gl.getD 1 0) m true, numE (gl.getD 2 0) 0 true, numE (gl.getD 3 0) r true]⟩

theorem mod_h (w m : Nat) (gl : List Nat) (r n j s b c y t r' over : Nat) (γ : Nat → Nat) : ∀ d, d < 8 →
    endL (modS w m gl (V8 n) r') (exec Try.prog modC ⟨modS w m gl (I (n : Nat)) r, (List.range 8).map γ, modRecs m r n d j (dg w d) s b c y t r' over, []⟩) =
      endR .normal (modS w m gl (V8 n) r') (exec Try.prog modC ⟨modS w m gl (I (n : Nat)) r, (List.range 8).map γ, modRecs m r n d j (dg w d) s b c y t r' over, []⟩)
  | 0, _ => by kernel_rfl
  | 1, _ => by kernel_rfl
  | 2, _ => by kernel_rfl
  | 3, _ => by kernel_rfl
  | 4, _ => by kernel_rfl
  | 5, _ => by kernel_rfl
  | 6, _ => by kernel_rfl
  | 7, _ => by kernel_rfl

theorem mod_stop (w m : Nat) (gl : List Nat) (r : Nat) (γ : Nat → Nat) :
    endL (modS w m gl (V8 0) r) (exec Try.prog modC ⟨modS w m gl (V8 0) r, (List.range 8).map γ, [], []⟩) = endR (.exit 2) (modS w m gl (V8 0) r) (exec Try.prog modC ⟨modS w m gl (V8 0) r, (List.range 8).map γ, [], []⟩) := by kernel_rfl

theorem rem_step (w m n : Nat) : w / 2 ^ n % m = (2 * (w / 2 ^ (n + 1) % m) + bitN w n) % m := by
  have e : w / 2 ^ n = 2 * (w / 2 ^ (n + 1)) + bitN w n := by
    unfold bitN
    rw [Nat.pow_succ, ← Nat.div_div_eq_div_mul]
    omega
  rw [e, Nat.add_mod (2 * (w / 2 ^ (n + 1) % m)), Nat.mul_mod_mod, ← Nat.add_mod]

noncomputable def modRec (w m : Nat) (k : Nat) : Rec := .code modC (fun gl => modS w m gl (V8 k) (w / 2 ^ k % m)) (fun gl => modS w m gl (V8 0) (w % m)) (.exit 2)
theorem modRec_ok {w m k : Nat} {w0 : World} (hm : m < R) (h0 : 0 < m) (hk : k ≤ 512) : (modRec w m k).Ok Try.prog w0 := by
  refine Rec.ok_code follows (fun gl k => modS w m gl (V8 k) (w / 2 ^ k % m)) (fun k => k ≤ 512) id (.exit 2) (fun gl => modS w m gl (V8 0) (w % m)) (fun h => by cases h) k hk (fun gl k hk => ?_)
  cases k with
  | zero =>
    refine .stop 8 [] (fun r hr => by cases hr) (fun γ => ?_)
    have h := mod_stop w m gl (w % m) γ
    have e : w / 2 ^ 0 % m = w % m := by rw [Nat.pow_zero, Nat.div_one]
    show endL _ (exec Try.prog modC ⟨modS w m gl (V8 0) (w / 2 ^ 0 % m), _, _, _⟩) = endR _ _ (exec Try.prog modC ⟨modS w m gl (V8 0) (w / 2 ^ 0 % m), _, _, _⟩)
    rw [e]
    exact h
  | succ n =>
    obtain ⟨d, j, hd, hj, rfl⟩ : ∃ d j, d < 8 ∧ j < 64 ∧ n = 64 * d + j := ⟨n / 64, n % 64, by omega, by omega, by omega⟩
    obtain ⟨s, c, y, t, over, hok⟩ := modRecs_ok (m := m) (r := w / 2 ^ (64 * d + j + 1) % m) (d := d) (j := j) (x := dg w d) (b := bitN w (64 * d + j)) w0 hm (Nat.mod_lt _ h0) hd hj (dg_lt hd) (by rw [dg_eq w d hd, bit_d _ hj])
    rw [← rem_step] at hok
    refine .go (64 * d + j) (by omega) (by simp) 8 _ hok.all (fun γ => ?_)
    exact mod_h w m gl _ _ _ _ _ _ _ _ _ _ γ d hd


def eqX (x : Nat) : Value := .bool (((x : Nat) : Int) == 0)
theorem eqX_true : eqX 0 = .bool true := rfl
theorem eqX_false {x : Nat} (h : x ≠ 0) : eqX x = .bool false := by
  unfold eqX
  rw [show (((x : Nat) : Int) == 0) = false from by rw [beq_eq_false_iff_ne]; omega]

/-- .. where it is known -/
def eqB (d a b : Nat) (q : Bool) : Rec := opF d (eqS a b) (.bool q)
theorem eqB_ok {w0 : World} {d a b : Nat} {q : Bool} (ha : a < R) (hb : b < R) (hq : decide (a = b) = q) : (eqB d a b q).Ok Try.prog w0 := by
  have h := eqF_ok (w0 := w0) (d := d) ha hb
  unfold eqF at h
  rw [hq] at h
  exact h

def zeros (w : Nat) (n : Nat) : List Rec := (List.range n).map fun i => rn 23 (eqX (dg w (7 - i))) (.bool true)
/-- the rounds ahead: digits that are 0 -/
noncomputable def topRecs (w m v i : Nat) : List Rec := eqB 14 m 0 false :: (zeros w i ++ (if i < 8 then [rn 23 (eqX (dg w (7 - i))) (.bool false)] else []) ++ [.code modC (fun gl => modS w m gl (V8 (512 - 64 * i)) 0) (fun gl => modS w m gl (V8 0) v) (.exit 2)])

/-- limb.Mod -/
theorem f115_h (w m v : Nat) (γ : Nat → Nat) : ∀ i, i < 9 →
    outL Try.prog Try.f115.results.toList [] (exec Try.prog (Fx Try.f115) ⟨Ex.start Try.f115.ntmps [(WV w, .no), (NV m, .no)] [], (List.range 8).map γ, topRecs w m v i, []⟩) =
      outR Try.prog Try.f115.results.toList [] (.tuple #[NV v, I 0]) (exec Try.prog (Fx Try.f115) ⟨Ex.start Try.f115.ntmps [(WV w, .no), (NV m, .no)] [], (List.range 8).map γ, topRecs w m v i, []⟩)
  | 0, _ => by kernel_rfl
  | 1, _ => by kernel_rfl
  | 2, _ => by kernel_rfl
  | 3, _ => by kernel_rfl
  | 4, _ => by kernel_rfl
  | 5, _ => by kernel_rfl
  | 6, _ => by kernel_rfl
  | 7, _ => by kernel_rfl
  | 8, _ => by kernel_rfl

theorem zeros_ok {w : Nat} {w0 : World} {n : Nat} (hn : n ≤ 8) (h : ∀ d, 8 - n ≤ d → d < 8 → dg w d = 0) : RecsOk w0 (zeros w n) := by
  have : ∀ l : List Nat, (∀ i ∈ l, i < n) → RecsOk w0 (l.map fun i => rn 23 (eqX (dg w (7 - i))) (.bool true)) := by
    intro l
    induction l with
    | nil => intro _; trivial
    | cons i l ih =>
      intro hl
      refine ⟨rn_ok ?_, ih fun j hj => hl j (by simp [hj])⟩
      have := hl i (by simp)
      rw [h (7 - i) (by omega) (by omega), eqX_true]
  exact this _ fun i hi => by simpa using hi

theorem first_zero (w : Nat) : ∃ i, i ≤ 8 ∧ (∀ d, 8 - i ≤ d → d < 8 → dg w d = 0) ∧ (i < 8 → dg w (7 - i) ≠ 0) := by
  have : ∀ k, k ≤ 8 → (∃ i, i ≤ k ∧ (∀ d, 8 - i ≤ d → d < 8 → dg w d = 0) ∧ (i < k → dg w (7 - i) ≠ 0)) := by
    intro k
    induction k with
    | zero => intro _; exact ⟨0, by omega, fun d h1 h2 => by omega, fun h => by omega⟩
    | succ k ih =>
      intro hk
      obtain ⟨i, h1, h2, h3⟩ := ih (by omega)
      by_cases hik : i < k
      · exact ⟨i, by omega, h2, fun _ => h3 hik⟩
      · have e : i = k := by omega
        subst e
        by_cases hz : dg w (7 - i) = 0
        · refine ⟨i + 1, by omega, fun d a b => ?_, fun h => by omega⟩
          by_cases hd : d = 7 - i
          · rw [hd]; exact hz
          · exact h2 d (by omega) b
        · exact ⟨i, by omega, h2, fun _ => hz⟩
  exact this 8 (by omega)

theorem top_zero {w : Nat} (hw : w < R * R) : ∀ n, n ≤ 8 → (∀ d, n ≤ d → d < 8 → dg w d = 0) → w / B ^ n = 0 := by
  intro n hn h
  have : ∀ k, k ≤ 8 - n → w / B ^ (8 - k) = 0 := by
    intro k
    induction k with
    | zero =>
      intro _
      apply Nat.div_eq_of_lt
      rw [show B ^ (8 - 0) = R * R from by decide]
      exact hw
    | succ k ih =>
      intro hk
      have e := ih (by omega)
      have e2 := h (8 - (k + 1)) (by omega) (by omega)
      rw [dg_eq w _ (by omega)] at e2
      rw [show 8 - k = (8 - (k + 1)) + 1 by omega, Nat.pow_succ, ← Nat.div_div_eq_div_mul] at e
      have hd := Nat.div_add_mod (w / B ^ (8 - (k + 1))) B
      rw [e, e2, Nat.mul_zero] at hd
      exact hd.symm
  have := this (8 - n) (by omega)
  rwa [show 8 - (8 - n) = n by omega] at this

theorem f115_ok {w m : Nat} (hw : w < R * R) (hm : m < R) (h0 : 0 < m) : Pure 115 [WV w, NV m] (.tuple #[NV (w % m), I 0]) := by
  obtain ⟨i, hi, hz, hnz⟩ := first_zero w
  have hr : w / 2 ^ (512 - 64 * i) % m = 0 := by
    have e := top_zero hw (8 - i) (by omega) (fun d a b => hz d a b)
    rw [show B = 2 ^ 64 from by decide, ← Nat.pow_mul, show 64 * (8 - i) = 512 - 64 * i by omega] at e
    rw [e, Nat.zero_mod]
  refine pure_of Try.func115 rfl 8 [WV w, NV m] (topRecs w m (w % m) i) _ (fun w0 => ?_) (fun γ => f115_h w m (w % m) γ i (by omega))
  have hrec : Rec.Ok Try.prog w0 (.code modC (fun gl => modS w m gl (V8 (512 - 64 * i)) 0) (fun gl => modS w m gl (V8 0) (w % m)) (.exit 2)) := by
    have := modRec_ok (w := w) (m := m) (k := 512 - 64 * i) (w0 := w0) hm h0 (by omega)
    unfold modRec at this
    rw [hr] at this
    exact this
  refine ⟨eqB_ok hm (by decide) (decide_eq_false (by omega)), ((zeros_ok hi hz).append ?_).append ⟨hrec, trivial⟩⟩
  split
  · rename_i h8
    exact ⟨rn_ok (eqX_false (hnz h8)), trivial⟩
  · trivial

end Go.Proofs.Ytildcmggcbdhpaa
