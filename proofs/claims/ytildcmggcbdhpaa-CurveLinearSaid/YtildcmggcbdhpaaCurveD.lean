/- Package curve: equality of points. No conditions but that numbers are below R. -/
import Derived.Test.YtildcmggcbdhpaaEcC
namespace Go.Proofs.Ytildcmggcbdhpaa
open Go.Ex Go.RowKit Lim

theorem eq24_depth {a b : Nat} (ha : a < R) (hb : b < R) (d : Nat) (w : World) : (Op.equalIn (d + 2) 24 (NV a) (NV b)).run Try.prog w = .ok (decide (a = b)) w := by
  have hu : Try.prog.underlying 24 = some (.array 4 22) := by kernel_rfl
  have h22 : Try.prog.underlying 22 = some (.int .u64) := by kernel_rfl
  have hi : (Try.prog.info? 22).isSome = true := by kernel_rfl
  have hc : Try.prog.cellsOf 22 = 1 := by kernel_rfl
  obtain ⟨i, hi⟩ := Option.isSome_iff_exists.1 hi
  rw [← NV_inj ha hb]
  unfold NV
  rw [show d + 2 = (d + 1) + 1 from rfl, run_equalIn_array w (d + 1) _ _ hu hi, hc]
  show (Op.eqItems (d + 1) 22 1 _ _ [0, 1, 2, 3]).run Try.prog w = _
  simp only [Op.eqItems, Sem.run_bind, Sem.run_ite, Sem.run_pure, part_num _ _ _ _ _ 0 (by decide), part_num _ _ _ _ _ 1 (by decide), part_num _ _ _ _ _ 2 (by decide), part_num _ _ _ _ _ 3 (by decide), Result.andThen_ok,
    run_equalIn_int _ _ _ _ _ _ _ h22]
  simp only [List.getD_cons_zero, List.getD_cons_succ]
  generalize (((l0 a : Nat) : Int) == (l0 b : Nat)) = b0
  generalize (((l1 a : Nat) : Int) == (l1 b : Nat)) = b1
  generalize (((l2 a : Nat) : Int) == (l2 b : Nat)) = b2
  generalize (((l3 a : Nat) : Int) == (l3 b : Nat)) = b3
  cases b0 <;> cases b1 <;> cases b2 <;> cases b3 <;> simp

theorem part_pt (x y : Nat) (inf : Bool) (w : World) : (part 24 #[U (l0 x), U (l1 x), U (l2 x), U (l3 x), U (l0 y), U (l1 y), U (l2 y), U (l3 y), .bool inf] 0).run Try.prog w = .ok (NV x) w ∧
    (part 24 #[U (l0 x), U (l1 x), U (l2 x), U (l3 x), U (l0 y), U (l1 y), U (l2 y), U (l3 y), .bool inf] 4).run Try.prog w = .ok (NV y) w ∧
    (part 4 #[U (l0 x), U (l1 x), U (l2 x), U (l3 x), U (l0 y), U (l1 y), U (l2 y), U (l3 y), .bool inf] 8).run Try.prog w = .ok (.bool inf) w :=
  ⟨by kernel_rfl, by kernel_rfl, by kernel_rfl⟩

theorem list3 {α : Type} {l : List α} (h : l.length = 3) : ∃ a b c, l = [a, b, c] := by
  match l, h with
  | [a, b, c], _ => exact ⟨a, b, c, rfl⟩

theorem eq26 {x y x' y' : Nat} {inf inf' : Bool} (hx : x < R) (hy : y < R) (hx' : x' < R) (hy' : y' < R) (w : World) :
    (Op.equal 26 (PV x y inf) (PV x' y' inf')).run Try.prog w = .ok (decide (x = x') && (decide (y = y') && (inf == inf'))) w := by
  have ht : Try.prog.underlying 26 = some (.struct (Try.prog.fieldsOf 26)) := by kernel_rfl
  have hs : Try.prog.stoodInHeld 26 = false := by kernel_rfl
  have h4 : Try.prog.underlying 4 = some .bool := by kernel_rfl
  have hf : (Try.prog.fieldsOf 26).toList.map (fun f => (f.name == "_", f.type, f.offset)) = [(false, 24, 0), (false, 24, 4), (false, 4, 8)] := by kernel_rfl
  show (Op.equalIn (9999 + 1) 26 _ _).run Try.prog w = _
  unfold PV
  rw [run_equalIn_struct w 9999 26 _ _ ht hs]
  generalize (Try.prog.fieldsOf 26).toList = fs at hf
  obtain ⟨f0, f1, f2, rfl⟩ := list3 (l := fs) (by have := congrArg List.length hf; simpa using this)
  simp only [List.map_cons, List.map_nil, List.cons.injEq, Prod.mk.injEq, and_true, beq_eq_false_iff_ne] at hf
  obtain ⟨⟨n0, t0, o0⟩, ⟨n1, t1, o1⟩, ⟨n2, t2, o2⟩⟩ := hf
  simp only [Op.eqFields, if_pos n0, if_pos n1, if_pos n2, t0, t1, t2, o0, o1, o2, Sem.run_bind, Sem.run_ite, Sem.run_pure, (part_pt _ _ _ _).1, (part_pt _ _ _ _).2.1, (part_pt _ _ _ _).2.2, Result.andThen_ok,
    show (9999 : Nat) = 9997 + 2 from rfl, eq24_depth hx hx', eq24_depth hy hy']
  have e3 : (Op.equalIn (9997 + 2) 4 (.bool inf) (.bool inf')).run Try.prog w = .ok (inf == inf') w := run_equalIn_bool' w (9997 + 1) 4 inf inf' h4
  rw [e3]
  cases decide (x = x') <;> cases decide (y = y') <;> cases inf <;> cases inf' <;> simp

def eqPS (x y : Nat) (inf : Bool) (x' y' : Nat) (inf' : Bool) : Sem Value := do eqGuard .eql 26 (.tmp 0) (.tmp 0) (PV x y inf) (PV x' y' inf'); binOp .eql 26 (PV x y inf) (PV x' y' inf')
def nePS (x y : Nat) (inf : Bool) (x' y' : Nat) (inf' : Bool) : Sem Value := do eqGuard .neq 26 (.tmp 0) (.tmp 0) (PV x y inf) (PV x' y' inf'); binOp .neq 26 (PV x y inf) (PV x' y' inf')
def eqP (d x y : Nat) (inf : Bool) (x' y' : Nat) (inf' : Bool) (q : Bool) : Rec := opF d (eqPS x y inf x' y' inf') (.bool q)
def neP (d x y : Nat) (inf : Bool) (x' y' : Nat) (inf' : Bool) (q : Bool) : Rec := opF d (nePS x y inf x' y' inf') (.bool q)
theorem guard26 (op : BinOp) (a b : Operand) (x y : Nat) (inf : Bool) (x' y' : Nat) (inf' : Bool) (w : World) : (eqGuard op 26 a b (PV x y inf) (PV x' y' inf')).run Try.prog w = .ok () w := by
  have : Try.prog.eqGuardType Try.prog.depth 26 = false := by kernel_rfl
  unfold eqGuard PV
  cases op <;> simp [this]
theorem eqP_ok {w0 : World} {d x y x' y' : Nat} {inf inf' q : Bool} (hx : x < R) (hy : y < R) (hx' : x' < R) (hy' : y' < R) (hq : (decide (x = x') && (decide (y = y') && (inf == inf'))) = q) : (eqP d x y inf x' y' inf' q).Ok Try.prog w0 := opF_ok fun w => by
  unfold eqPS
  rw [Sem.run_bind, guard26, Result.andThen_ok]
  have e : binOp .eql 26 (PV x y inf) (PV x' y' inf') = (do pure (.bool (← Op.equal 26 (PV x y inf) (PV x' y' inf')))) := by kernel_rfl
  rw [e, Sem.run_bind, eq26 hx hy hx' hy', hq]
  rfl
theorem neP_ok {w0 : World} {d x y x' y' : Nat} {inf inf' q : Bool} (hx : x < R) (hy : y < R) (hx' : x' < R) (hy' : y' < R) (hq : (decide (x = x') && (decide (y = y') && (inf == inf'))) = !q) : (neP d x y inf x' y' inf' q).Ok Try.prog w0 := opF_ok fun w => by
  unfold nePS
  rw [Sem.run_bind, guard26, Result.andThen_ok]
  have e : binOp .neq 26 (PV x y inf) (PV x' y' inf') = (do pure (.bool (!(← Op.equal 26 (PV x y inf) (PV x' y' inf'))))) := by kernel_rfl
  rw [e, Sem.run_bind, eq26 hx hy hx' hy', hq]
  simp

end Go.Proofs.Ytildcmggcbdhpaa
