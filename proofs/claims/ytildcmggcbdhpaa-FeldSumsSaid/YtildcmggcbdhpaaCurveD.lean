/- Package curve: equality of points. No conditions but that numbers are below R. Package curve: sums and negatives of points, and the document's. No conditions but that numbers are below R. -/
import Derived.Test.YtildcmggcbdhpaaEcB
namespace Go.Proofs.Ytildcmggcbdhpaa
open Go.Ex Go.RowKit Lim

theorem eq24_depth {a b : Nat} (ha : a < R) (hb : b < R) (d : Nat) (w : World) : (Op.equalIn (d + 2) 24 (NV a) (NV b)).run Try.prog w = .ok (decide (a = b)) w := by
  have hu : Try.prog.underlying 24 = some (.array 4 22) := by kernel_rfl
  have h22 : Try.prog.underlying 22 = some (.int .u64) := by kernel_rfl
  have hi : (Try.prog.info? 22).isSome = true := by kernel_rfl
  have hc : Try.prog.cellsOf 22 = 1 := by kernel_rfl
  obtain ⟨i, hi⟩ := Option.isSome_iff_exists.1 hi
  rw [← NV_inj ha hb]
  unfold NV
  rw [show d + 2 = (d + 1) + 1 from rfl, run_equalIn_array w (d + 1) _ _ hu hi, hc]
  show (Op.eqItems (d + 1) 22 1 _ _ [0, 1, 2, 3]).run Try.prog w = _
  simp only [Op.eqItems, Sem.run_bind, Sem.run_ite, Sem.run_pure, part_num _ _ _ _ _ 0 (by decide), part_num _ _ _ _ _ 1 (by decide), part_num _ _ _ _ _ 2 (by decide), part_num _ _ _ _ _ 3 (by decide), Result.andThen_ok,
    run_equalIn_int _ _ _ _ _ _ _ h22]
  simp only [List.getD_cons_zero, List.getD_cons_succ]
  generalize (((l0 a : Nat) : Int) == (l0 b : Nat)) = b0
  generalize (((l1 a : Nat) : Int) == (l1 b : Nat)) = b1
  generalize (((l2 a : Nat) : Int) == (l2 b : Nat)) = b2
  generalize (((l3 a : Nat) : Int) == (l3 b : Nat)) = b3
  cases b0 <;> cases b1 <;> cases b2 <;> cases b3 <;> simp

theorem part_pt (x y : Nat) (inf : Bool) (w : World) : (part 24 #[U (l0 x), U (l1 x), U (l2 x), U (l3 x), U (l0 y), U (l1 y), U (l2 y), U (l3 y), .bool inf] 0).run Try.prog w = .ok (NV x) w ∧
    (part 24 #[U (l0 x), U (l1 x), U (l2 x), U (l3 x), U (l0 y), U (l1 y), U (l2 y), U (l3 y), .bool inf] 4).run Try.prog w = .ok (NV y) w ∧
    (part 4 #[U (l0 x), U (l1 x), U (l2 x), U (l3 x), U (l0 y), U (l1 y), U (l2 y), U (l3 y), .bool inf] 8).run Try.prog w = .ok (.bool inf) w :=
  ⟨by kernel_rfl, by kernel_rfl, by kernel_rfl⟩

theorem list3 {α : Type} {l : List α} (h : l.length = 3) : ∃ a b c, l = [a, b, c] := by
  match l, h with
  | [a, b, c], _ => exact ⟨a, b, c, rfl⟩

theorem eq26 {x y x' y' : Nat} {inf inf' : Bool} (hx : x < R) (hy : y < R) (hx' : x' < R) (hy' : y' < R) (w : World) :
    (Op.equal 26 (PV x y inf) (PV x' y' inf')).run Try.prog w = .ok (decide (x = x') && (decide (y = y') && (inf == inf'))) w := by
  have ht : Try.prog.underlying 26 = some (.struct (Try.prog.fieldsOf 26)) := by kernel_rfl
  have hs : Try.prog.stoodInHeld 26 = false := by kernel_rfl
  have h4 : Try.prog.underlying 4 = some .bool := by kernel_rfl
  have hf : (Try.prog.fieldsOf 26).toList.map (fun f => (f.name == "_", f.type, f.offset)) = [(false, 24, 0), (false, 24, 4), (false, 4, 8)] := by kernel_rfl
  show (Op.equalIn (9999 + 1) 26 _ _).run Try.prog w = _
  unfold PV
  rw [run_equalIn_struct w 9999 26 _ _ ht hs]
  generalize (Try.prog.fieldsOf 26).toList = fs at hf
  obtain ⟨f0, f1, f2, rfl⟩ := list3 (l := fs) (by have := congrArg List.length hf; simpa using this)
  simp only [List.map_cons, List.map_nil, List.cons.injEq, Prod.mk.injEq, and_true, beq_eq_false_iff_ne] at hf
  obtain ⟨⟨n0, t0, o0⟩, ⟨n1, t1, o1⟩, ⟨n2, t2, o2⟩⟩ := hf
  simp only [Op.eqFields, if_pos n0, if_pos n1, if_pos n2, t0, t1, t2, o0, o1, o2, Sem.run_bind, Sem.run_ite, Sem.run_pure, (part_pt _ _ _ _).1, (part_pt _ _ _ _).2.1, (part_pt _ _ _ _).2.2, Result.andThen_ok,
    show (9999 : Nat) = 9997 + 2 from rfl, eq24_depth hx hx', eq24_depth hy hy']
  have e3 : (Op.equalIn (9997 + 2) 4 (.bool inf) (.bool inf')).run Try.prog w = .ok (inf == inf') w := run_equalIn_bool' w (9997 + 1) 4 inf inf' h4
  rw [e3]
  cases decide (x = x') <;> cases decide (y = y') <;> cases inf <;> cases inf' <;> simp

def eqPS (x y : Nat) (inf : Bool) (x' y' : Nat) (inf' : Bool) : Sem Value := do eqGuard .eql 26 (.tmp 0) (.tmp 0) (PV x y inf) (PV x' y' inf'); binOp .eql 26 (PV x y inf) (PV x' y' inf')
def nePS (x y : Nat) (inf : Bool) (x' y' : Nat) (inf' : Bool) : Sem Value := do eqGuard .neq 26 (.tmp 0) (.tmp 0) (PV x y inf) (PV x' y' inf'); binOp .neq 26 (PV x y inf) (PV x' y' inf')
def eqP (d x y : Nat) (inf : Bool) (x' y' : Nat) (inf' : Bool) (q : Bool) : Rec := opF d (eqPS x y inf x' y' inf') (.bool q)
def neP (d x y : Nat) (inf : Bool) (x' y' : Nat) (inf' : Bool) (q : Bool) : Rec := opF d (nePS x y inf x' y' inf') (.bool q)
theorem guard26 (op : BinOp) (a b : Operand) (x y : Nat) (inf : Bool) (x' y' : Nat) (inf' : Bool) (w : World) : (eqGuard op 26 a b (PV x y inf) (PV x' y' inf')).run Try.prog w = .ok () w := by
  have : Try.prog.eqGuardType Try.prog.depth 26 = false := by kernel_rfl
  unfold eqGuard PV
  cases op <;> simp [this]
theorem eqP_ok {w0 : World} {d x y x' y' : Nat} {inf inf' q : Bool} (hx : x < R) (hy : y < R) (hx' : x' < R) (hy' : y' < R) (hq : (decide (x = x') && (decide (y = y') && (inf == inf'))) = q) : (eqP d x y inf x' y' inf' q).Ok Try.prog w0 := opF_ok fun w => by
  unfold eqPS
  rw [Sem.run_bind, guard26, Result.andThen_ok]
  have e : binOp .eql 26 (PV x y inf) (PV x' y' inf') = (do pure (.bool (← Op.equal 26 (PV x y inf) (PV x' y' inf')))) := by kernel_rfl
  rw [e, Sem.run_bind, eq26 hx hy hx' hy', hq]
  rfl
theorem neP_ok {w0 : World} {d x y x' y' : Nat} {inf inf' q : Bool} (hx : x < R) (hy : y < R) (hx' : x' < R) (hy' : y' < R) (hq : (decide (x = x') && (decide (y = y') && (inf == inf'))) = !q) : (neP d x y inf x' y' inf' q).Ok Try.prog w0 := opF_ok fun w => by
  unfold nePS
  rw [Sem.run_bind, guard26, Result.andThen_ok]
  have e : binOp .neq 26 (PV x y inf) (PV x' y' inf') = (do pure (.bool (!(← Op.equal 26 (PV x y inf) (PV x' y' inf'))))) := by kernel_rfl
  rw [e, Sem.run_bind, eq26 hx hy hx' hy', hq]
  simp

end Go.Proofs.Ytildcmggcbdhpaa

namespace Go.Proofs.Ytildcmggcbdhpaa
open Go.Ex Go.RowKit Lim

def ptX : Pnt → Nat
  | none => 0
  | some (a, _) => a.val
def ptY : Pnt → Nat
  | none => 0
  | some (_, b) => b.val
def ptI : Pnt → Bool
  | none => true
  | some _ => false
theorem ptX_lt (A : Pnt) : ptX A < P := by
  cases A with
  | none => exact P_pos
  | some q => exact q.1.isLt
theorem ptY_lt (A : Pnt) : ptY A < P := by
  cases A with
  | none => exact P_pos
  | some q => exact q.2.isLt
def PVt (A : Pnt) : Value := PV (ptX A) (ptY A) (ptI A)

theorem valid_lt {x y : Nat} {inf : Bool} (h : isPt x y inf = true) : x < P ∧ y < P := by
  cases inf
  · simp [isPt] at h; exact ⟨h.1, h.2.1⟩
  · simp [isPt] at h; rw [h.1, h.2]; exact ⟨P_pos, P_pos⟩
theorem valid_inf {x y : Nat} (h : isPt x y true = true) : x = 0 ∧ y = 0 := by simpa [isPt] using h
/-- a point's numbers are what it stands for -/
theorem pt_back {x y : Nat} {inf : Bool} (h : isPt x y inf = true) : ptX (pt x y inf) = x ∧ ptY (pt x y inf) = y ∧ ptI (pt x y inf) = inf := by
  obtain ⟨hx, hy⟩ := valid_lt h
  cases inf
  · exact ⟨Nat.mod_eq_of_lt hx, Nat.mod_eq_of_lt hy, rfl⟩
  · obtain ⟨e1, e2⟩ := valid_inf h
    rw [e1, e2]
    exact ⟨rfl, rfl, rfl⟩

def jIn (x y : Nat) (inf : Bool) : J := if inf then ⟨0, 0, 0⟩ else ⟨x * R % P, y * R % P, one⟩
theorem jIn_lt (x y : Nat) : ∀ inf, (jIn x y inf).lt
  | true => ⟨P_pos, P_pos, P_pos⟩
  | false => ⟨Nat.mod_lt _ P_pos, Nat.mod_lt _ P_pos, Nat.mod_lt _ P_pos⟩
theorem jIn_JJ (x y : Nat) : ∀ inf, JJ (jIn x y inf) (pt x y inf)
  | true => JJ_inf
  | false => by
    refine ⟨?_, ?_, ?_⟩
    · show un one ≠ 0
      rw [un_one]; decide
    · show un (x * R % P) = toK x * un one * un one
      rw [un_one, un_R]; grind
    · show un (y * R % P) = toK y * un one * un one * un one
      rw [un_one, un_R]; grind
theorem f59_ok {g h x y : Nat} {inf : Bool} (hx : x < P) (hy : y < P) : PureAt (lN g h) 59 [PT g, PV x y inf] (jIn x y inf).v := by
  cases inf
  · exact f59_aff hx hy
  · exact f59_inf

theorem oIn_lt {x y : Nat} (hx : x < P) (hy : y < P) : ∀ inf, (oIn x y inf).lt
  | true => ⟨P_pos, (by decide : 1 < P), P_pos⟩
  | false => ⟨hx, hy, (by decide : 1 < P)⟩
theorem oIn_OO (x y : Nat) : ∀ inf, OO (oIn x y inf) (pt x y inf)
  | true => OO_inf
  | false => by
    refine ⟨?_, ?_, ?_⟩
    · show toK 1 ≠ 0
      decide
    · show toK x = toK x * toK 1
      rw [toK_one]; grind
    · show toK y = toK y * toK 1
      rw [toK_one]; grind

theorem f57_ok {g h : Nat} {p : J} {A : Pnt} (hA : JJ p A) (hp : p.lt) : PureAt (lN g h) 57 [PT g, p.v] (PVt A) := by
  obtain ⟨x, y, z⟩ := p
  obtain ⟨hx, hy, hz⟩ := hp
  by_cases h0 : z = 0
  · have e := JJ_zero hA h0
    subst h0 e
    exact f57_inf
  · have hun : un z ≠ 0 := fun e => h0 ((un_eq_zero hz).1 e)
    obtain ⟨a, b, rfl⟩ := JJ_nz hA ⟨hx, hy, hz⟩ h0
    obtain ⟨_, ex, ey⟩ := hA
    dsimp only at ex ey
    have hr : redc P z ≠ 0 := fun e => hun (by unfold un; rw [e]; rfl)
    have h1 := f57_aff (g := g) (h := h) hx hy hz h0 hr
    have hi := isInv.inv (un z) hun
    have ei : toK (inv (redc P z)) = inK (un z) := inv_inK (redc_lt (by decide))
    have eX : mm x (fmul (inv (redc P z)) (inv (redc P z))) = a.val := by
      apply toK_inj (mm_lt _ _) a.isLt
      rw [toK_of]
      have h2 := un_eq x
      have h3 : toK (mm x (fmul (inv (redc P z)) (inv (redc P z)))) = toK x * toK (fmul (inv (redc P z)) (inv (redc P z))) * rho := by
        have := un_eq (x * fmul (inv (redc P z)) (inv (redc P z)))
        rw [toK_mul] at this
        exact this
      rw [h3, toK_fmul, ei]
      generalize inK (un z) = i at *
      generalize un z = u at *
      generalize un x = v at *
      grind
    have eY : mm y (fmul (fmul (inv (redc P z)) (inv (redc P z))) (inv (redc P z))) = b.val := by
      apply toK_inj (mm_lt _ _) b.isLt
      rw [toK_of]
      have h2 := un_eq y
      have h3 : toK (mm y (fmul (fmul (inv (redc P z)) (inv (redc P z))) (inv (redc P z)))) = toK y * toK (fmul (fmul (inv (redc P z)) (inv (redc P z))) (inv (redc P z))) * rho := by
        have := un_eq (y * fmul (fmul (inv (redc P z)) (inv (redc P z))) (inv (redc P z)))
        rw [toK_mul] at this
        exact this
      rw [h3, toK_fmul, toK_fmul, ei]
      generalize inK (un z) = i at *
      generalize un z = u at *
      generalize un y = v at *
      grind
    rw [eX, eY] at h1
    exact h1

theorem f60_ok {p : J} {A : Pnt} (hA : OO p A) (hp : p.lt) : Pure 60 [p.v] (PVt A) := by
  obtain ⟨x, y, z⟩ := p
  obtain ⟨hx, hy, hz⟩ := hp
  by_cases h0 : z = 0
  · have e := OO_zero hA h0
    subst h0 e
    exact f60_inf
  · have hun : toK z ≠ 0 := fun e => h0 ((toK_eq_zero hz).1 e)
    cases A with
    | none => exact absurd hA hun
    | some q =>
      obtain ⟨a, b⟩ := q
      obtain ⟨_, ex, ey⟩ := hA
      dsimp only at ex ey
      have h1 := f60_aff hx hy hz h0
      have hi := isInv.inv (toK z) hun
      have ei : toK (inv z) = inK (toK z) := inv_inK hz
      have eX : fmul x (inv z) = a.val := by
        apply toK_inj (fmul_lt _ _) a.isLt
        rw [toK_of, toK_fmul, ei, ex]
        grind
      have eY : fmul y (inv z) = b.val := by
        apply toK_inj (fmul_lt _ _) b.isLt
        rw [toK_of, toK_fmul, ei, ey]
        grind
      rw [eX, eY] at h1
      exact h1

/-- the plane, made by the caller -/
def lO (g h : Nat) : List Ent := [montO h P P2 Pi, planeE g h [] true]
theorem PureAt.ownL {g h : Nat} {f : FuncId} {args : List Value} {v : Value} (hp : PureAt (lN g h) f args v) : PureAt (lO g h) f args v := hp.of fun w hw e he => by
  simp only [lN, List.mem_cons, List.not_mem_nil, or_false] at he
  rcases he with rfl | rfl
  · exact (hw (planeE g h [] true) (by simp [lO])).weak rfl rfl rfl rfl
  · exact (hw (montO h P P2 Pi) (by simp [lO])).weak rfl rfl rfl rfl
def loc (f : FuncId) (j : Nat) (args : List Value) (v : Value) : Rec := lc f (fun σ => PT (σ (j + 1)) :: args) (fun σ => [(j, montO (σ j) P P2 Pi), (j + 1, planeE (σ (j + 1)) (σ j) [] true)]) v
theorem loc_ok {w : World} {f : FuncId} {j : Nat} {args : List Value} {v : Value} (h : ∀ g h, PureAt (lN g h) f (PT g :: args) v) : (loc f j args v).Ok Try.prog w := lc_ok fun σ => (h (σ (j + 1)) (σ j)).ownL
def plc (j : Nat) : Rec := nc 56 [] 2 twoV planeN (.at_ (j + 1))
theorem plc_ok {w : World} {j : Nat} : (plc j).Ok Try.prog w := nc_ok f56_ok

theorem f21_yes {x y : Nat} {inf : Bool} (h : isPt x y inf = true) : Pure 21 [PV x y inf] (I 0) := by
  obtain ⟨hx, hy⟩ := valid_lt h
  have := f21_ok (inf := inf) (ltR hx) (ltR hy)
  rw [h] at this
  exact this
theorem f21_no {x y : Nat} {inf : Bool} (hx : x < R) (hy : y < R) (h : isPt x y inf = false) : Pure 21 [PV x y inf] (I 30) := by
  have := f21_ok (inf := inf) hx hy
  rw [h] at this
  exact this
theorem f20_is {x y : Nat} {inf q : Bool} (hx : x < R) (hy : y < R) (h : isPt x y inf = q) : Pure 20 [PV x y inf] (.bool q) := h ▸ f20_ok hx hy

/-- curve.Add -/
theorem f17_yes {x y x' y' : Nat} {inf inf' : Bool} (ha : isPt x y inf = true) (hb : isPt x' y' inf' = true) : Pure 17 [PV x y inf, PV x' y' inf'] (.tuple #[PVt (sum (pt x y inf) (pt x' y' inf')), I 0]) := by
  obtain ⟨hx, hy⟩ := valid_lt ha
  obtain ⟨hx', hy'⟩ := valid_lt hb
  have h57 := fun g h => f57_ok (g := g) (h := h) (JJ_plus (jIn_JJ x y inf) (jIn_JJ x' y' inf') (jIn_lt x y inf) (jIn_lt x' y' inf')) (plus_lt (jIn_lt x y inf) (jIn_lt x' y' inf'))
  generalize sum (pt x y inf) (pt x' y' inf') = S at *
  have h58 := fun g h => f58_ok (g := g) (h := h) (jIn_lt x y inf) (jIn_lt x' y' inf')
  generalize plus (jIn x y inf) (jIn x' y' inf') = s at *
  have h59 := fun g h => f59_ok (g := g) (h := h) (inf := inf) hx hy
  have h59' := fun g h => f59_ok (g := g) (h := h) (inf := inf') hx' hy'
  generalize jIn x y inf = a at *
  generalize jIn x' y' inf' = b at *
  exact pure_of Try.func17 rfl 16 [PV x y inf, PV x' y' inf'] [pc 21 [PV x y inf] (I 0), pc 21 [PV x' y' inf'] (I 0), plc 3, loc 59 3 [PV x y inf] (JV a.x a.y a.z), loc 59 3 [PV x' y' inf'] (JV b.x b.y b.z), loc 58 3 [JV a.x a.y a.z, JV b.x b.y b.z] (JV s.x s.y s.z), loc 57 3 [JV s.x s.y s.z] (PVt S)] _
    (fun _ => ⟨pc_ok (f21_yes ha), pc_ok (f21_yes hb), plc_ok, loc_ok h59, loc_ok h59', loc_ok h58, loc_ok h57, trivial⟩) (fun γ => by kernel_rfl)
theorem f17_no {x y x' y' : Nat} {inf inf' : Bool} (hx : x < R) (hy : y < R) (hx' : x' < R) (hy' : y' < R) (h : ¬ (isPt x y inf = true ∧ isPt x' y' inf' = true)) : Pure 17 [PV x y inf, PV x' y' inf'] (.tuple #[PV 0 0 false, I 30]) := by
  by_cases ha : isPt x y inf = true
  · have hb : isPt x' y' inf' = false := by
      cases hq : isPt x' y' inf'
      · rfl
      · exact absurd ⟨ha, hq⟩ h
    exact pure_of Try.func17 rfl 16 [PV x y inf, PV x' y' inf'] [pc 21 [PV x y inf] (I 0), pc 21 [PV x' y' inf'] (I 30)] _ (fun _ => ⟨pc_ok (f21_yes ha), pc_ok (f21_no hx' hy' hb), trivial⟩) (fun γ => by kernel_rfl)
  · have ha' : isPt x y inf = false := by simpa using ha
    exact pure_of Try.func17 rfl 16 [PV x y inf, PV x' y' inf'] [pc 21 [PV x y inf] (I 30)] _ (fun _ => ⟨pc_ok (f21_no hx hy ha'), trivial⟩) (fun γ => by kernel_rfl)

/-- wardmoteref03.Add -/
theorem f18_yes {x y x' y' : Nat} {inf inf' : Bool} (ha : isPt x y inf = true) (hb : isPt x' y' inf' = true) : Pure 18 [PV x y inf, PV x' y' inf'] (.tuple #[PVt (sum (pt x y inf) (pt x' y' inf')), I 0]) := by
  obtain ⟨hx, hy⟩ := valid_lt ha
  obtain ⟨hx', hy'⟩ := valid_lt hb
  have l1 := oIn_lt hx hy inf
  have l2 := oIn_lt hx' hy' inf'
  have h57 := f60_ok (OO_opl (oIn_OO x y inf) (oIn_OO x' y' inf') l1 l2) (opl_lt l1 l2)
  generalize sum (pt x y inf) (pt x' y' inf') = S at *
  have h58 := f61_ok l1 l2
  generalize opl (oIn x y inf) (oIn x' y' inf') = s at *
  have h59 := f62_ok (x := x) (y := y) inf
  have h59' := f62_ok (x := x') (y := y') inf'
  generalize oIn x y inf = a at *
  generalize oIn x' y' inf' = b at *
  exact pure_of Try.func18 rfl 16 [PV x y inf, PV x' y' inf'] [pc 20 [PV x y inf] (.bool true), pc 20 [PV x' y' inf'] (.bool true), pc 62 [PV x y inf] (JV a.x a.y a.z), pc 62 [PV x' y' inf'] (JV b.x b.y b.z), pc 61 [JV a.x a.y a.z, JV b.x b.y b.z] (JV s.x s.y s.z), pc 60 [JV s.x s.y s.z] (PVt S)] _
    (fun _ => ⟨pc_ok (f20_is (ltR hx) (ltR hy) ha), pc_ok (f20_is (ltR hx') (ltR hy') hb), pc_ok h59, pc_ok h59', pc_ok h58, pc_ok h57, trivial⟩) (fun γ => by kernel_rfl)
theorem f18_no {x y x' y' : Nat} {inf inf' : Bool} (hx : x < R) (hy : y < R) (hx' : x' < R) (hy' : y' < R) (h : ¬ (isPt x y inf = true ∧ isPt x' y' inf' = true)) : Pure 18 [PV x y inf, PV x' y' inf'] (.tuple #[PV 0 0 false, I 30]) := by
  by_cases ha : isPt x y inf = true
  · have hb : isPt x' y' inf' = false := by
      cases hq : isPt x' y' inf'
      · rfl
      · exact absurd ⟨ha, hq⟩ h
    exact pure_of Try.func18 rfl 16 [PV x y inf, PV x' y' inf'] [pc 20 [PV x y inf] (.bool true), pc 20 [PV x' y' inf'] (.bool false)] _ (fun _ => ⟨pc_ok (f20_is hx hy ha), pc_ok (f20_is hx' hy' hb), trivial⟩) (fun γ => by kernel_rfl)
  · have ha' : isPt x y inf = false := by simpa using ha
    exact pure_of Try.func18 rfl 16 [PV x y inf, PV x' y' inf'] [pc 20 [PV x y inf] (.bool false)] _ (fun _ => ⟨pc_ok (f20_is hx hy ha'), trivial⟩) (fun γ => by kernel_rfl)

/-- curve.Neg -/
theorem f19_yes {x y : Nat} {inf : Bool} (ha : isPt x y inf = true) : Pure 19 [PV x y inf] (.tuple #[PV x (fsub 0 y) inf, I 0]) := by
  obtain ⟨hx, hy⟩ := valid_lt ha
  have h32 := fun g h => f32_ok (g := g) (h := h) (r2 := P2) (inv := Pi) (root := rt) P_R hy
  have e : (P - y) % P = fsub 0 y := by unfold fsub; rw [Nat.zero_add]
  rw [e] at h32
  exact pure_of Try.func19 rfl 16 [PV x y inf] [pc 21 [PV x y inf] (I 0), bc 2, oc 32 2 [NV y] (.tuple #[NV (fsub 0 y), I 0])] _ (fun _ => ⟨pc_ok (f21_yes ha), bc_ok, oc_ok h32, trivial⟩) (fun γ => by kernel_rfl)
theorem f19_no {x y : Nat} {inf : Bool} (hx : x < R) (hy : y < R) (ha : isPt x y inf = false) : Pure 19 [PV x y inf] (.tuple #[PV 0 0 false, I 30]) :=
  pure_of Try.func19 rfl 16 [PV x y inf] [pc 21 [PV x y inf] (I 30)] _ (fun _ => ⟨pc_ok (f21_no hx hy ha), trivial⟩) (fun γ => by kernel_rfl)

theorem G_is : isPt GX GY false = true := by decide +kernel
theorem NG_is : isPt GX (fsub 0 GY) false = true := by decide +kernel
theorem sum_neg {a b c : K} (h : c ≠ b) : sum (some (a, b)) (some (a, c)) = none := by simp [sum, Ec.add, h]
theorem G_sum : sum (pt GX GY false) (pt GX (fsub 0 GY) false) = none := sum_neg (by decide +kernel)
/-- wardmotelaw03.g -/
theorem f23_ok : Pure 23 [] (.bool true) := by
  have h17 := f17_yes G_is NG_is
  rw [G_sum] at h17
  exact pure_of Try.func23 rfl 16 [] [pc 71 [] (PV GX GY false), pc 19 [PV GX GY false] (.tuple #[PV GX (fsub 0 GY) false, I 0]), pc 71 [] (PV GX GY false), pc 17 [PV GX GY false, PV GX (fsub 0 GY) false] (.tuple #[PV 0 0 true, I 0]),
      pc 71 [] (PV GX GY false), pc 72 [] (PV GX GY false), eqP 25 GX GY false GX GY false true, eqP 30 0 0 true 0 0 true true] _
    (fun _ => ⟨pc_ok f71_ok, pc_ok (f19_yes G_is), pc_ok f71_ok, pc_ok h17, pc_ok f71_ok, pc_ok f72_ok, eqP_ok (by decide) (by decide) (by decide) (by decide) rfl, eqP_ok (by decide) (by decide) (by decide) (by decide) rfl, trivial⟩) (fun γ => by kernel_rfl)

end Go.Proofs.Ytildcmggcbdhpaa
