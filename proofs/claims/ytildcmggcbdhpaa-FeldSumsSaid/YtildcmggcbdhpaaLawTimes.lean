/- The laws CurveTimes, CurveLinear, CurveOrder as functions. No conditions but that numbers are below R. -/
import Derived.Test.YtildcmggcbdhpaaRefH
namespace Go.Proofs.Ytildcmggcbdhpaa
open Go.Ex Go.RowKit Lim
set_option maxRecDepth 100000

def one24 (k : Nat) (p : W9) (v : Value) (j : Nat) : Rec :=
  lc 24 (fun σ => [SL (σ j) 0 1 1, SL (σ (j + 1)) 0 1 1]) (fun σ => [(j, ⟨σ j, nl k, [], 24, true⟩), (j + 1, ⟨σ (j + 1), W9.l p, [], 26, true⟩)]) v

theorem nl_len (k : Nat) : (nl k).length = 4 := rfl
theorem w9_len (p : W9) : (W9.l p).length = 9 := rfl
def ks (l : List (Nat × W9)) : List Value := l.flatMap fun q => nl q.1
def ps (l : List (Nat × W9)) : List Value := l.flatMap fun q => W9.l q.2
theorem SmH.flat (g h : Nat) (l : List (Nat × W9)) (hl : ∀ q ∈ l, q.1 < R ∧ q.2.lt) (hn : l.length ≤ 64) : SmH ⟨g, ks l, 24, h, ps l, 26⟩ l (some ⟨g, 0, none⟩) 0 (some ⟨h, 0, none⟩) 0 where
  k := fun _ => rfl
  p := fun _ => rfl
  kc := fun i q hq j v hv => by
    rw [Nat.zero_add]
    exact flat_get (f := fun q : Nat × W9 => nl q.1) (c := 4) (fun _ => rfl) l i j q v hq hv
  pc := fun i q hq j v hv => by
    rw [Nat.zero_add]
    exact flat_get (f := fun q : Nat × W9 => W9.l q.2) (c := 9) (fun _ => rfl) l i j q v hq hv
  lt := hl
  n := hn
theorem SmH.one (g h k : Nat) (p : W9) (hk : k < R) (hp : p.lt) : SmH ⟨g, nl k, 24, h, W9.l p, 26⟩ [(k, p)] (some ⟨g, 0, none⟩) 0 (some ⟨h, 0, none⟩) 0 :=
  SmH.flat g h [(k, p)] (fun q hq => by
    simp only [List.mem_cons, List.not_mem_nil, or_false] at hq
    subst hq
    exact ⟨hk, hp⟩) (Nat.le_of_ble_eq_true rfl)

theorem holds_own {need : List Ent} {f : FuncId} {args : List Value} {v : Value} {g h : Nat} {c d : List Value} {t u : TypeId} (hp : PureAt [xE g c t, xE h d u] f args v) (hn : need = [⟨g, c, [], t, true⟩, ⟨h, d, [], u, true⟩]) : PureAt need f args v := hp.of fun w hw e he => by
  subst hn
  simp only [List.mem_cons, List.not_mem_nil, or_false] at he
  rcases he with rfl | rfl
  · exact (hw ⟨g, c, [], t, true⟩ (by simp)).weak rfl rfl rfl rfl
  · exact (hw ⟨h, d, [], u, true⟩ (by simp)).weak rfl rfl rfl rfl

theorem f26_of {k : Nat} {p : W9} {x y e : Nat} {inf : Bool} (h : ∀ g h, PureAt [xE g (nl k) 24, xE h (W9.l p) 26] 24 [SL g 0 1 1, SL h 0 1 1] (.tuple #[PV x y inf, I (e : Nat)])) : Pure 26 [NV k, PV p.x p.y p.inf] (.tuple #[PV x y inf, I (e : Nat)]) :=
  pure_of Try.func26 rfl 8 [NV k, PV p.x p.y p.inf] [one24 k p (.tuple #[PV x y inf, I (e : Nat)]) 3] _ (fun _ => ⟨lc_ok fun σ => holds_own (h (σ 3) (σ 4)) rfl, trivial⟩) (fun γ => by kernel_rfl)

theorem rel_one {k : Nat} {p : W9} (hp : isPt p.x p.y p.inf = true) : Cp.Rel (lj [(k, p)]) [(k, cpOf p hp)] := ⟨rfl, jIn_JJ p.x p.y p.inf, jIn_lt _ _ _, trivial⟩
/-- curve.Mul -/
theorem f26_yes {k : Nat} {p : W9} (hk : k < Q) (hp : isPt p.x p.y p.inf = true) : Pure 26 [NV k, PV p.x p.y p.inf] (.tuple #[PVt (Cp.mul k (cpOf p hp)).1, I 0]) := by
  have hl := valid_lt hp
  have hkR := Nat.lt_trans hk Q_R
  have hJ := Cp.ladR_is (rel_one (k := k) hp) (fun q hq => by simp only [List.mem_cons, List.not_mem_nil, or_false] at hq; subst hq; exact hkR)
  have e : Cp.lin [(k, cpOf p hp)] = Cp.mul k (cpOf p hp) := Cp.add_o _
  rw [e] at hJ
  have h24 := fun g h => f24_good (kc := 1) (pc := 1) (SmH.one g h k p hkR ⟨ltR hl.1, ltR hl.2⟩) (fun q hq => by simp only [List.mem_cons, List.not_mem_nil, or_false] at hq; subst hq; exact ⟨hk, hp⟩) Nat.zero_lt_one hJ
  exact f26_of (e := 0) h24
theorem f26_no {k : Nat} {p : W9} (hkR : k < R) (hl : p.lt) : (Q ≤ k → Pure 26 [NV k, PV p.x p.y p.inf] (.tuple #[PV 0 0 false, I 20])) ∧ (k < Q → isPt p.x p.y p.inf = false → Pure 26 [NV k, PV p.x p.y p.inf] (.tuple #[PV 0 0 false, I 30])) := by
  refine ⟨fun hk => ?_, fun hk hp => ?_⟩
  · exact f26_of (e := 20) fun g h => f24_bad (kc := 1) (pc := 1) (i0 := 0) (SmH.one g h k p hkR hl) ⟨fun j q hj => by omega, _, rfl, .inl ⟨hk, rfl⟩⟩
  · exact f26_of (e := 30) fun g h => f24_bad (kc := 1) (pc := 1) (i0 := 0) (SmH.one g h k p hkR hl) ⟨fun j q hj => by omega, _, rfl, .inr ⟨hk, hp, rfl⟩⟩

/-- wardmotelaw03.CurveTimes -/
theorem law6_of {k x y x' y' e : Nat} {inf inf' : Bool} (hx' : x' < R) (hy' : y' < R) (h26 : Pure 26 [NV k, PV x y inf] (.tuple #[PV x' y' inf', I (e : Nat)])) (h27 : Pure 27 [NV k, PV x y inf] (.tuple #[PV x' y' inf', I (e : Nat)])) : Pure 6 [NV k, PV x y inf] (.bool true) :=
  pure_of Try.func6 rfl 16 [NV k, PV x y inf] [pc 26 [NV k, PV x y inf] (.tuple #[PV x' y' inf', I (e : Nat)]), pc 27 [NV k, PV x y inf] (.tuple #[PV x' y' inf', I (e : Nat)]), eqP 23 x' y' inf' x' y' inf' true, rn 27 (.bool (((e : Nat) : Int) == (e : Nat))) (.bool true), pc 23 [] (.bool true)] _
    (fun _ => ⟨pc_ok h26, pc_ok h27, eqP_ok hx' hy' hx' hy' (by simp), rn_ok (by simp), pc_ok f23_ok, trivial⟩) (fun γ => by kernel_rfl)
theorem law6_ok {k x y : Nat} {inf : Bool} (hk : k < R) (hx : x < R) (hy : y < R) : Pure 6 [NV k, PV x y inf] (.bool true) := by
  have hz : (0 : Nat) < R := by decide
  by_cases hq : k < Q
  · by_cases hp : isPt x y inf = true
    · exact law6_of (e := 0) (ltR (ptX_lt _)) (ltR (ptY_lt _)) (f26_yes (p := ⟨x, y, inf⟩) hq hp) (f27_yes (p := ⟨x, y, inf⟩) hq hp)
    · have hp' : isPt x y inf = false := by simpa using hp
      exact law6_of (e := 30) hz hz ((f26_no (p := ⟨x, y, inf⟩) hk ⟨hx, hy⟩).2 hq hp') ((f27_no (p := ⟨x, y, inf⟩) hk ⟨hx, hy⟩).2 hq hp')
  · exact law6_of (e := 20) hz hz ((f26_no (p := ⟨x, y, inf⟩) hk ⟨hx, hy⟩).1 (by omega)) ((f27_no (p := ⟨x, y, inf⟩) hk ⟨hx, hy⟩).1 (by omega))

/-- curve.Mul, of the curve's points -/
theorem cpOf_pt (A : Cp) : cpOf ⟨ptX A.1, ptY A.1, ptI A.1⟩ (on_valid A.2) = A := Cp.ext (pt_of A.1)
theorem f26_S {k : Nat} (hk : k < Q) (A : Cp) : Pure 26 [NV k, PVt A.1] (.tuple #[PVt (Cp.mul k A).1, I 0]) := by
  have h := f26_yes (p := ⟨ptX A.1, ptY A.1, ptI A.1⟩) hk (on_valid A.2)
  rw [cpOf_pt] at h
  exact h
theorem f19_S (A : Cp) : Pure 19 [PVt A.1] (.tuple #[PVt (Cp.neg A).1, I 0]) := by
  have h := f19_yes (on_valid A.2)
  obtain ⟨A, hA⟩ := A
  cases A with
  | none =>
    have h' : Pure 19 [PV 0 0 true] (.tuple #[PV 0 (fsub 0 0) true, I 0]) := h
    rw [show fsub 0 0 = 0 by decide] at h'
    exact h'
  | some q =>
    obtain ⟨a, b⟩ := q
    have e : fsub 0 b.val = (0 - b).val := by
      apply toK_inj (fsub_lt _ _) (0 - b).isLt
      rw [toK_fsub b.isLt, toK_of, toK_of, toK_zero]
    have h' : Pure 19 [PV a.val b.val false] (.tuple #[PV a.val (fsub 0 b.val) false, I 0]) := h
    rw [e] at h'
    exact h'

def WX (a : Nat) : Value := .agg #[U (l0 a), U (l1 a), U (l2 a), U (l3 a), U 0, U 0, U 0, U 0]
theorem WX_eq {a : Nat} (h : a < R) : WX a = WV a := by
  have z : a / B / B / B / B = 0 := by
    rw [Nat.div_div_eq_div_mul, Nat.div_div_eq_div_mul, Nat.div_div_eq_div_mul]
    exact Nat.div_eq_of_lt (by rw [show B * (B * (B * B)) = R by decide]; exact h)
  unfold WX WV l4 l5 l6 l7
  rw [z]
  rfl
/-- wardmotelaw03.in -/
theorem f28_ok {a : Nat} (h : a < R) : Pure 28 [NV a] (NV (a % Q)) := by
  have h76 := f76_ok (w := a) fcQ (Nat.lt_of_lt_of_le h (Nat.le_mul_of_pos_right R (by decide)))
  rw [← WX_eq h] at h76
  exact pure_of Try.func28 rfl 8 [NV a] [pc 45 [] (FV Q CQ), pc 76 [FV Q CQ, WX a] (NV (a % Q))] _ (fun _ => ⟨pc_ok f45_ok, pc_ok h76, trivial⟩) (fun γ => by kernel_rfl)

/-- the scalars' field, made by the caller -/
def qo (f : FuncId) (j : Nat) (args : List Value) (v : Value) : Rec := lc f (fun σ => PT (σ (j + 1)) :: args) (fun σ => [(j, montO (σ j) Q Q2 Qi), (j + 1, fieldE (σ (j + 1)) (σ j) Q 0 [] true)]) v
theorem qo_ok {w : World} {f : FuncId} {j : Nat} {args : List Value} {v : Value} (h : ∀ g h, PureAt (fN g h Q Q2 Qi 0) f (PT g :: args) v) : (qo f j args v).Ok Try.prog w := lc_ok fun σ => qown (h (σ (j + 1)) (σ j))
def qb (j : Nat) : Rec := nc 29 [] 2 twoV scalN (.at_ (j + 1))
theorem qb_ok {w : World} {j : Nat} : (qb j).Ok Try.prog w := nc29_ok

def law8Recs (k a l : Nat) (A N X Y : Pnt) : List Rec :=
  [pc 20 [PVt A] (.bool true), pc 28 [NV k] (NV a), qb 3, qo 32 3 [NV 1] (.tuple #[NV l, I 0]), pc 26 [NV l, PVt A] (.tuple #[PVt N, I 0]), pc 19 [PVt A] (.tuple #[PVt N, I 0]), pc 26 [NV a, PVt A] (.tuple #[PVt X, I 0]), pc 26 [NV a, PVt N] (.tuple #[PVt Y, I 0]), pc 19 [PVt X] (.tuple #[PVt Y, I 0]), eqT 83 N, eqT 88 Y, pc 23 [] (.bool true)]
theorem law8_raw (k a l : Nat) (A N X Y : Pnt) (γ : Nat → Nat) :
    outL Try.prog Try.f8.results.toList [] (exec Try.prog (Fx Try.f8) ⟨Ex.start Try.f8.ntmps [(NV k, .no), (PVt A, .no)] [], (List.range 32).map γ, law8Recs k a l A N X Y, []⟩) =
      outR Try.prog Try.f8.results.toList [] (.bool true) (exec Try.prog (Fx Try.f8) ⟨Ex.start Try.f8.ntmps [(NV k, .no), (PVt A, .no)] [], (List.range 32).map γ, law8Recs k a l A N X Y, []⟩) := by kernel_rfl

/-- wardmotelaw03.CurveOrder -/
theorem law8_ok {k x y : Nat} {inf : Bool} (hk : k < R) (hx : x < R) (hy : y < R) : Pure 8 [NV k, PV x y inf] (.bool true) := by
  by_cases hp : isPt x y inf = true
  · obtain ⟨A, hA⟩ : ∃ A : Cp, PV x y inf = PVt A.1 := ⟨⟨pt x y inf, pt_on hp⟩, PV_pt hp⟩
    rw [hA]
    have h20 := f20_is (ltR (ptX_lt A.1)) (ltR (ptY_lt A.1)) (on_valid A.2)
    have ha : k % Q < Q := Nat.mod_lt _ (by decide)
    have h32 := fun g h => f32_ok (g := g) (h := h) (r2 := Q2) (inv := Qi) (root := 0) (a := 1) Q_R (by decide)
    rw [show (Q - 1) % Q = Q - 1 by decide] at h32
    have h1 := f26_S (k := Q - 1) (by decide) A
    rw [Cp.last] at h1
    have h2 := f19_S A
    have h3 := f26_S ha A
    have h4 := f26_S ha (Cp.neg A)
    rw [Cp.mul_neg] at h4
    have h5 := f19_S (Cp.mul (k % Q) A)
    have h28 := f28_ok hk
    generalize Q - 1 = l at *
    generalize k % Q = a at *
    generalize (Cp.neg (Cp.mul a A)).1 = Y at *
    generalize (Cp.mul a A).1 = X at *
    generalize (Cp.neg A).1 = N at *
    exact pure_of Try.func8 rfl 32 [NV k, PVt A.1] (law8Recs k a l A.1 N X Y) _ (fun _ => ⟨pc_ok h20, pc_ok h28, qb_ok, qo_ok h32, pc_ok h1, pc_ok h2, pc_ok h3, pc_ok h4, pc_ok h5, eqT_ok, eqT_ok, pc_ok f23_ok, trivial⟩) (fun γ => law8_raw k a l A.1 N X Y γ)
  · exact pure_of Try.func8 rfl 32 [NV k, PV x y inf] [pc 20 [PV x y inf] (.bool false), pc 23 [] (.bool true)] _ (fun _ => ⟨pc_ok (f20_is hx hy (by simpa using hp)), pc_ok f23_ok, trivial⟩) (fun γ => by kernel_rfl)

def two24 (a b : Nat) (p : W9) (v : Value) (j : Nat) : Rec :=
  lc 24 (fun σ => [SL (σ j) 0 2 2, SL (σ (j + 1)) 0 2 2]) (fun σ => [(j, ⟨σ j, nl a ++ nl b, [], 24, true⟩), (j + 1, ⟨σ (j + 1), W9.l p ++ W9.l p, [], 26, true⟩)]) v
def wOf (A : Pnt) : W9 := ⟨ptX A, ptY A, ptI A⟩
def t1 (A : Pnt) : Value := .tuple #[PVt A, I 0]
def law7Recs (x y a b s m : Nat) (A AP BP SP MP : Pnt) : List Rec :=
  [pc 20 [PVt A] (.bool true), pc 28 [NV x] (NV a), pc 28 [NV y] (NV b), qb 5, qo 30 5 [NV a, NV b] (.tuple #[NV s, I 0]), qb 8, qo 31 8 [NV a, NV b] (.tuple #[NV m, I 0]), pc 26 [NV a, PVt A] (t1 AP), pc 26 [NV b, PVt A] (t1 BP), pc 26 [NV s, PVt A] (t1 SP),
    pc 17 [PVt AP, PVt BP] (t1 SP), pc 26 [NV m, PVt A] (t1 MP), pc 26 [NV a, PVt BP] (t1 MP), two24 a b (wOf A) (t1 SP) 17, eqT 116 SP, eqT 121 MP, eqT 126 SP, pc 23 [] (.bool true)]
theorem law7_raw (x y a b s m : Nat) (A AP BP SP MP : Pnt) (γ : Nat → Nat) :
    outL Try.prog Try.f7.results.toList [] (exec Try.prog (Fx Try.f7) ⟨Ex.start Try.f7.ntmps [(NV x, .no), (NV y, .no), (PVt A, .no)] [], (List.range 32).map γ, law7Recs x y a b s m A AP BP SP MP, []⟩) =
      outR Try.prog Try.f7.results.toList [] (.bool true) (exec Try.prog (Fx Try.f7) ⟨Ex.start Try.f7.ntmps [(NV x, .no), (NV y, .no), (PVt A, .no)] [], (List.range 32).map γ, law7Recs x y a b s m A AP BP SP MP, []⟩) := by kernel_rfl

/-- what points stand for -/
noncomputable def cpT (p : W9) : Cp := if h : isPt p.x p.y p.inf = true then cpOf p h else Cp.o
theorem cpT_val {p : W9} (h : isPt p.x p.y p.inf = true) : cpT p = cpOf p h := dif_pos h
noncomputable def cl (l : List (Nat × W9)) : List (Nat × Cp) := l.map fun q => (q.1, cpT q.2)
theorem rel_cl : ∀ (l : List (Nat × W9)), (∀ q ∈ l, isPt q.2.x q.2.y q.2.inf = true) → Cp.Rel (lj l) (cl l)
  | [], _ => trivial
  | q :: l, h => by
    refine ⟨rfl, ?_, jIn_lt _ _ _, rel_cl l (fun q hq => h q (List.mem_cons_of_mem _ hq))⟩
    show JJ q.2.j (cpT q.2).1
    rw [cpT_val (h q (by simp))]
    exact jIn_JJ _ _ _

/-- curve.Sum -/
theorem f24_lin {a : SmA} {l : List (Nat × W9)} {ka pa : Option Addr} {ko po kc pc : Nat} (H : SmH a l ka ko pa po) (hg : ∀ q ∈ l, good q) (h0 : 0 < l.length) :
    PureAt [a.k, a.p] 24 [.slice ka l.length kc, .slice pa l.length pc] (.tuple #[PVt (Cp.lin (cl l)).1, I 0]) :=
  f24_good H hg h0 (Cp.ladR_is (rel_cl l (fun q hq => (hg q hq).2)) (fun q hq => by
    unfold cl at hq
    rw [List.mem_map] at hq
    obtain ⟨q', hq', rfl⟩ := hq
    exact (H.lt q' hq').1))

/-- wardmotelaw03.CurveLinear -/
theorem cpT_wOf (A : Cp) : cpT (wOf A.1) = A := by
  have h : isPt (wOf A.1).x (wOf A.1).y (wOf A.1).inf = true := on_valid A.2
  rw [cpT_val h]
  exact cpOf_pt A
theorem law7_on {x y : Nat} (A : Cp) (hx : x < R) (hy : y < R) : Pure 7 [NV x, NV y, PVt A.1] (.bool true) := by
  have h20 := f20_is (ltR (ptX_lt A.1)) (ltR (ptY_lt A.1)) (on_valid A.2)
  have ha : x % Q < Q := Nat.mod_lt _ (by decide)
  have hb : y % Q < Q := Nat.mod_lt _ (by decide)
  have h28a := f28_ok hx
  have h28b := f28_ok hy
  generalize x % Q = a at *
  generalize y % Q = b at *
  have h30 := fun g h => f30_ok (g := g) (h := h) (r2 := Q2) (inv := Qi) (root := 0) Q_R ha hb
  have h31 := fun g h => f31_ok (g := g) (h := h) (root := 0) montQ ha hb
  have k1 := f26_S ha A
  have k2 := f26_S hb A
  have k3 := f26_S (k := (a + b) % Q) (Nat.mod_lt _ (by decide)) A
  rw [Cp.mod_Q] at k3
  have k4 := f17_S (Cp.mul a A).2 (Cp.mul b A).2
  rw [← Cp.add_val, ← Cp.mul_add] at k4
  have k5 := f26_S (k := a * b % Q) (Nat.mod_lt _ (by decide)) A
  rw [Cp.mod_Q] at k5
  have k6 := f26_S ha (Cp.mul b A)
  rw [← Cp.mul_mul] at k6
  have hw : (wOf A.1).lt := ⟨ltR (ptX_lt A.1), ltR (ptY_lt A.1)⟩
  have hok : isPt (wOf A.1).x (wOf A.1).y (wOf A.1).inf = true := on_valid A.2
  have k7 : ∀ g h, PureAt [xE g (nl a ++ nl b) 24, xE h (W9.l (wOf A.1) ++ W9.l (wOf A.1)) 26] 24 [SL g 0 2 2, SL h 0 2 2] (t1 (Cp.mul (a + b) A).1) := fun g h => by
    have hall : ∀ q ∈ [(a, wOf A.1), (b, wOf A.1)], good q := fun q hq => by
      simp only [List.mem_cons, List.not_mem_nil, or_false] at hq
      rcases hq with rfl | rfl
      · exact ⟨ha, hok⟩
      · exact ⟨hb, hok⟩
    have := f24_lin (kc := 2) (pc := 2) (SmH.flat g h [(a, wOf A.1), (b, wOf A.1)] (fun q hq => by
      simp only [List.mem_cons, List.not_mem_nil, or_false] at hq
      rcases hq with rfl | rfl
      · exact ⟨Nat.lt_trans ha Q_R, hw⟩
      · exact ⟨Nat.lt_trans hb Q_R, hw⟩) (Nat.le_of_ble_eq_true rfl)) hall (Nat.lt_of_lt_of_le Nat.zero_lt_one (Nat.le_of_ble_eq_true rfl))
    have e : Cp.lin (cl [(a, wOf A.1), (b, wOf A.1)]) = Cp.mul (a + b) A := by
      show Cp.mul a (cpT (wOf A.1)) + (Cp.mul b (cpT (wOf A.1)) + Cp.o) = _
      rw [cpT_wOf, Cp.add_o, Cp.mul_add]
    rw [e] at this
    exact this
  have h24 : ∀ w0 : World, (two24 a b (wOf A.1) (t1 (Cp.mul (a + b) A).1) 17).Ok Try.prog w0 := fun w0 => lc_ok fun σ => holds_own (k7 (σ 17) (σ 18)) rfl
  generalize (Cp.mul (a * b) A).1 = MP at *
  generalize (Cp.mul (a + b) A).1 = SP at *
  generalize (Cp.mul a A).1 = AP at *
  generalize (Cp.mul b A).1 = BP at *
  generalize (a + b) % Q = s at *
  generalize a * b % Q = m at *
  exact pure_of Try.func7 rfl 32 [NV x, NV y, PVt A.1] (law7Recs x y a b s m A.1 AP BP SP MP) _
    (fun w => ⟨pc_ok h20, pc_ok h28a, pc_ok h28b, qb_ok, qo_ok h30, qb_ok, qo_ok h31, pc_ok k1, pc_ok k2, pc_ok k3, pc_ok k4, pc_ok k5, pc_ok k6, h24 w, eqT_ok, eqT_ok, eqT_ok, pc_ok f23_ok, trivial⟩) (fun γ => law7_raw x y a b s m A.1 AP BP SP MP γ)
theorem law7_ok {k l x y : Nat} {inf : Bool} (hk : k < R) (hl : l < R) (hx : x < R) (hy : y < R) : Pure 7 [NV k, NV l, PV x y inf] (.bool true) := by
  by_cases hp : isPt x y inf = true
  · rw [PV_pt hp]
    exact law7_on ⟨pt x y inf, pt_on hp⟩ hk hl
  · exact pure_of Try.func7 rfl 32 [NV k, NV l, PV x y inf] [pc 20 [PV x y inf] (.bool false), pc 23 [] (.bool true)] _ (fun _ => ⟨pc_ok (f20_is hx hy (by simpa using hp)), pc_ok f23_ok, trivial⟩) (fun γ => by kernel_rfl)

end Go.Proofs.Ytildcmggcbdhpaa
