/- Package limb: equality of numbers, bits, remainders. No conditions but that numbers are below R. -/
import Derived.Test.YtildcmggcbdhpaaLimbD
import Derived.ChangeKeysEq
namespace Go.Proofs.Ytildcmggcbdhpaa
open Go.Ex Go.RowKit Lim

/-- what an operation answers, in slot d -/
def opF (d : Nat) (s : Sem Value) (v : Value) : Rec := .fact d (fun _ => []) (fun _ => do pure (.value (← s))) v
theorem opF_ok {w0 : World} {d : Nat} {s : Sem Value} {v : Value} (h : ∀ w, s.run Try.prog w = .ok v w) : (opF d s v).Ok Try.prog w0 := fun _ w _ _ => by
  show (s.bind fun v => .pure (Next.value v)).run Try.prog w = _
  have := Sem.run_bind (P := Try.prog) (w := w) s (fun v => Sem.pure (Next.value v))
  rw [show s.bind (fun v => Sem.pure (Next.value v)) = (s >>= fun v => Sem.pure (Next.value v)) from rfl, Sem.run_bind, h w]
  rfl

def nums (l : List Int) : Value := .agg (l.map fun n => .int .u64 n).toArray
theorem part_num (x0 x1 x2 x3 : Int) (w : World) : ∀ i, i < 4 → (part 22 #[.int .u64 x0, .int .u64 x1, .int .u64 x2, .int .u64 x3] (i * 1)).run Try.prog w = .ok (.int .u64 ([x0, x1, x2, x3].getD i 0)) w
  | 0, _ => by kernel_rfl
  | 1, _ => by kernel_rfl
  | 2, _ => by kernel_rfl
  | 3, _ => by kernel_rfl

theorem eq24_int (x0 x1 x2 x3 y0 y1 y2 y3 : Int) (w : World) :
    (Op.equal 24 (.agg #[.int .u64 x0, .int .u64 x1, .int .u64 x2, .int .u64 x3]) (.agg #[.int .u64 y0, .int .u64 y1, .int .u64 y2, .int .u64 y3])).run Try.prog w = .ok (x0 == y0 && (x1 == y1 && (x2 == y2 && x3 == y3))) w := by
  have hu : Try.prog.underlying 24 = some (.array 4 22) := by kernel_rfl
  have h22 : Try.prog.underlying 22 = some (.int .u64) := by kernel_rfl
  have hi : (Try.prog.info? 22).isSome = true := by kernel_rfl
  have hc : Try.prog.cellsOf 22 = 1 := by kernel_rfl
  obtain ⟨i, hi⟩ := Option.isSome_iff_exists.1 hi
  show (Op.equalIn (9999 + 1) 24 _ _).run Try.prog w = _
  rw [run_equalIn_array w 9999 _ _ hu hi, hc]
  show (Op.eqItems 9999 22 1 _ _ [0, 1, 2, 3]).run Try.prog w = _
  simp only [Op.eqItems, Sem.run_bind, Sem.run_ite, Sem.run_pure, part_num _ _ _ _ _ 0 (by decide), part_num _ _ _ _ _ 1 (by decide), part_num _ _ _ _ _ 2 (by decide), part_num _ _ _ _ _ 3 (by decide), Result.andThen_ok,
    show (9999 : Nat) = 9998 + 1 from rfl, run_equalIn_int _ _ _ _ _ _ _ h22]
  simp only [List.getD_cons_zero, List.getD_cons_succ]
  cases h0 : x0 == y0
  · simp
  · cases h1 : x1 == y1
    · simp
    · cases h2 : x2 == y2
      · simp
      · cases h3 : x3 == y3 <;> simp

theorem NV_inj {a b : Nat} (ha : a < R) (hb : b < R) : (((l0 a : Nat) : Int) == (l0 b : Nat) && (((l1 a : Nat) : Int) == (l1 b : Nat) && (((l2 a : Nat) : Int) == (l2 b : Nat) && ((l3 a : Nat) : Int) == (l3 b : Nat)))) = decide (a = b) := by
  rw [Bool.eq_iff_iff]
  simp only [Bool.and_eq_true, beq_iff_eq, decide_eq_true_eq, Int.natCast_inj]
  constructor
  · rintro ⟨h0, h1, h2, h3⟩
    have e1 := L4_val ha
    have e2 := L4_val hb
    unfold L4 at e1 e2
    rw [h0, h1, h2, h3] at e1
    rw [← e1, e2]
  · rintro rfl
    exact ⟨rfl, rfl, rfl, rfl⟩

theorem eq24 {a b : Nat} (ha : a < R) (hb : b < R) (w : World) : (Op.equal 24 (NV a) (NV b)).run Try.prog w = .ok (decide (a = b)) w := by
  have h := eq24_int (l0 a) (l1 a) (l2 a) (l3 a) (l0 b) (l1 b) (l2 b) (l3 b) w
  rw [NV_inj ha hb] at h
  exact h

/-- a comparison of two numbers, in slot d -/
def eqS (a b : Nat) : Sem Value := do eqGuard .eql 24 (.tmp 0) (.tmp 0) (NV a) (NV b); binOp .eql 24 (NV a) (NV b)
def eqF (d a b : Nat) : Rec := opF d (eqS a b) (.bool (decide (a = b)))
theorem guard24 (x y : Operand) (a b : Nat) (w : World) : (eqGuard .eql 24 x y (NV a) (NV b)).run Try.prog w = .ok () w := by
  have : Try.prog.eqGuardType Try.prog.depth 24 = false := by kernel_rfl
  unfold eqGuard NV
  simp [this]
theorem eqF_ok {w0 : World} {d a b : Nat} (ha : a < R) (hb : b < R) : (eqF d a b).Ok Try.prog w0 := opF_ok fun w => by
  unfold eqS
  rw [Sem.run_bind, guard24, Result.andThen_ok]
  have e : binOp .eql 24 (NV a) (NV b) = (do pure (.bool (← Op.equal 24 (NV a) (NV b)))) := by kernel_rfl
  rw [e, Sem.run_bind, eq24 ha hb]
  rfl

end Go.Proofs.Ytildcmggcbdhpaa
