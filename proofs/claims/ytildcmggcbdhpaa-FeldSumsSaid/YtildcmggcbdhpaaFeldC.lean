/- share.At: a polynomial's value, by a loop over slices.Backward. No conditions but that the row's numbers stand where their values say. -/
import Derived.Test.YtildcmggcbdhpaaFeldB
import Derived.Test.YtildcmggcbdhpaaRound
namespace Go.Proofs.Ytildcmggcbdhpaa
open Go.Ex Go.RowKit Lim
set_option maxRecDepth 100000

theorem f125_ok {ka : Option Addr} {n cap : Nat} : Makes 125 [.slice ka n cap] 1 (fun δ => CL 136 (δ 0)) (fun δ => [⟨δ 0, [.slice ka n cap], [], 39, true⟩]) := fun w =>
  makes_at Try.func125 rfl 8 [(.slice ka n cap, .no)] [] [] 1 (fun _ => 0) [0] _ _ w (fun e he => by cases he) (fun _ => trivial) (by decide) (fun _ => rfl) (fun δ e he => by simp at he; subst he; rfl) (fun γ => by kernel_rfl)

def seqL : Code → Code
  | .seq a _ => a
  | c => c
def seqR : Code → Code
  | .seq _ b => b
  | c => c
def blkC : Code → Code
  | .block _ c => c
  | c => c
def rfA : Code → Code
  | .rangeFunc _ _ a _ => a
  | c => c
def rfB : Code → Code
  | .rangeFunc _ _ _ b => b
  | c => c
noncomputable def c88 : Code := suf 5 (Fx Try.f88)
noncomputable def c88a : Code := seqL (seqL c88)
noncomputable def c88f : Code := blkC (seqR (seqL c88))
noncomputable def c88z : Code := seqR c88
theorem c88_eq : c88 = .seq (.seq c88a (.block 0 (.rangeFunc (.tmp 27) #[28, 29] (rfA c88f) (rfB c88f)))) c88z := by kernel_rfl
theorem c88_A : plainC (rfA c88f) = true := by kernel_rfl
theorem c88_B : plainC (rfB c88f) = true := by kernel_rfl

/-- where a call's blocks lie -/
structure AtA where
  gx : Nat
  gr : Nat
  gw : Nat
  gm : Nat
  gf : Nat
  gq : Nat
  go : Nat
def AtA.of (γ : Nat → Nat) : AtA := ⟨γ 0, γ 1, γ 2, γ 3, γ 4, γ 5, γ 6⟩
def atH (a : AtA) (e : Ent) (x : Nat) : List Ent := [e, numE a.gx x true, numE a.gr 0 true, ⟨a.gw, nl x, [], 24, true⟩, montO a.gm Q Q2 Qi, fieldE a.gf a.gm Q 0 [] true, cE a.gq a.gf true, numE a.go 0 true]
def at5 (a : AtA) (e : Ent) (kv : Value) (x : Nat) : St :=
  ⟨frOf 45 [(0, kv), (3, PT a.gx), (4, PT a.gr), (6, PT a.gq), (7, PT a.go)], tgOf 45 [(0, .at_ 0), (3, .at_ 1), (4, .at_ 2), (6, .at_ 6), (7, .at_ 7)], atH a e x⟩
def at6 (a : AtA) (e : Ent) (kv : Value) (x : Nat) (B : Nat) : St :=
  ⟨frOf 45 [(3, PT a.gx), (4, PT a.gr), (6, PT a.gq), (7, PT a.go), (27, CL 136 B)], tgOf 45 [(3, .at_ 1), (4, .at_ 2), (6, .at_ 6), (7, .at_ 7)], atH a e x ++ [⟨B, [kv], [], 39, true⟩]⟩
def at5Recs (e : Ent) (kv : Value) (n x : Nat) : List Rec :=
  [pc 95 [I n] (.bool true), mc 96 [kv] [(0, e)] (.bool true), lc 96 (fun σ => [SL (σ 3) 0 1 1]) (fun σ => [(3, ⟨σ 3, nl x, [], 24, true⟩)]) (.bool true), qb 4]
theorem at5_raw (kg off n cap x : Nat) (kc : List Value) (kt : TypeId) (γ : Nat → Nat) :
    endL (at5 (.of γ) (xE kg kc kt) (SL kg off n cap) x) (exec Try.prog (pre 5 (Fx Try.f88)) ⟨Ex.start Try.f88.ntmps [(SL kg off n cap, .at_ 0), (NV x, .no)] [xE kg kc kt], (List.range 8).map γ, at5Recs (xE kg kc kt) (SL kg off n cap) n x, []⟩) =
      endR .normal (at5 (.of γ) (xE kg kc kt) (SL kg off n cap) x) (exec Try.prog (pre 5 (Fx Try.f88)) ⟨Ex.start Try.f88.ntmps [(SL kg off n cap, .at_ 0), (NV x, .no)] [xE kg kc kt], (List.range 8).map γ, at5Recs (xE kg kc kt) (SL kg off n cap) n x, []⟩) := by kernel_rfl
theorem at6_raw (a : AtA) (e : Ent) (kv : Value) (x : Nat) (γ : Nat → Nat) :
    endL (at6 a e kv x (γ 0)) (exec Try.prog c88a ⟨at5 a e kv x, (List.range 8).map γ, [nc 125 [kv] 1 (fun δ => CL 136 (δ 0)) (fun δ => [⟨δ 0, [kv], [], 39, true⟩]) (.at_ 8)], []⟩) =
      endR .normal (at6 a e kv x (γ 0)) (exec Try.prog c88a ⟨at5 a e kv x, (List.range 8).map γ, [nc 125 [kv] 1 (fun δ => CL 136 (δ 0)) (fun δ => [⟨δ 0, [kv], [], 39, true⟩]) (.at_ 8)], []⟩) := by kernel_rfl

/-- a round: one number more -/
def hz (x out c : Nat) : Nat := (out * x % Q + c) % Q
def roH (a : AtA) (x v gb c : Nat) : List Ent := [numE a.gx x false, cE a.gq a.gf false, fieldE a.gf a.gm Q 0 [] false, montE a.gm Q Q2 Qi, numE a.go v true, numE gb c false]
def ro0 (a : AtA) (i : Value) (c : Nat) : St := ⟨frOf 45 [(3, PT a.gx), (6, PT a.gq), (7, PT a.go), (28, i), (29, NV c)], tgOf 45 [], []⟩
def ro1 (a : AtA) (gb c : Nat) : St := ⟨frOf 45 [(3, PT a.gx), (6, PT a.gq), (7, PT a.go), (9, PT gb)], tgOf 45 [(9, .at_ 0)], [numE gb c true]⟩
def ro2 (a : AtA) (x v gb c : Nat) : St := ⟨frOf 45 [(3, PT a.gx), (6, PT a.gq), (7, PT a.go), (9, PT gb)], tgOf 45 [(3, .at_ 0), (6, .at_ 1), (7, .at_ 4), (9, .at_ 5)], roH a x v gb c⟩
def roR (a : AtA) (x v m c s : Nat) : List Rec :=
  [mc 31 [PT a.gf, NV v, NV x] [(2, fieldE a.gf a.gm Q 0 [] false), (3, montE a.gm Q Q2 Qi)] (.tuple #[NV m, I 0]), mc 30 [PT a.gf, NV m, NV c] [(2, fieldE a.gf a.gm Q 0 [] false), (3, montE a.gm Q Q2 Qi)] (.tuple #[NV s, I 0])]
theorem ro1_raw (a : AtA) (i : Value) (c : Nat) (γ : Nat → Nat) :
    endL (ro1 a (γ 0) c) (exec Try.prog (rfA c88f) ⟨ro0 a i c, (List.range 8).map γ, [], []⟩) = endR .normal (ro1 a (γ 0) c) (exec Try.prog (rfA c88f) ⟨ro0 a i c, (List.range 8).map γ, [], []⟩) := by kernel_rfl
theorem ro2_raw (a : AtA) (x v gb c m s : Nat) (γ : Nat → Nat) :
    endL (ro2 a x s gb c) (exec Try.prog (rfB c88f) ⟨ro2 a x v gb c, (List.range 8).map γ, roR a x v m c s, []⟩) = endR .normal (ro2 a x s gb c) (exec Try.prog (rfB c88f) ⟨ro2 a x v gb c, (List.range 8).map γ, roR a x v m c s, []⟩) := by kernel_rfl
def fi0 (a : AtA) (v : Nat) : St := ⟨frOf 45 [(4, PT a.gr), (7, PT a.go)], tgOf 45 [(4, .at_ 0), (7, .at_ 1)], [numE a.gr 0 true, numE a.go v false]⟩
def fi1 (a : AtA) (v : Nat) : St := ⟨frOf 45 [(4, PT a.gr), (5, I 0)], tgOf 45 [(4, .at_ 0)], [numE a.gr v true]⟩
theorem fi_raw (a : AtA) (v : Nat) (γ : Nat → Nat) :
    endL (fi1 a v) (exec Try.prog c88z ⟨fi0 a v, (List.range 8).map γ, [], []⟩) = endR .ret (fi1 a v) (exec Try.prog c88z ⟨fi0 a v, (List.range 8).map γ, [], []⟩) := by kernel_rfl


theorem start_mod {n : Nat} (args : List (Value × Tag)) (hp : List Ent) (w : World) (hhp : ∀ e ∈ hp, e.own = false ∧ e.holds w) :
    Mod (Frm.of w) (Ex.start n args hp).fr.length (toX (Ex.start n args hp)) { tmps := (args.map (·.1)).toArray ++ Array.replicate (n - (args.map (·.1)).toArray.size) undef, defers := [] } w := by
  refine ⟨rfl, by simp [Ex.start], fun t u hu => ?_, Frm.Keeps.refl (Frm.of w), fun k e he => (hhp e (List.mem_of_getElem? he)).2, fun k e he ho => ?_, fun k k' e e' _ he _ ho => ?_⟩
  · have hu' : ((Ex.start n args hp).fr[t]?).bind id = some u := hu
    have e1 : (Ex.start n args hp).fr = (args.map (·.1) ++ List.replicate (n - args.length) undef).map some := by simp [Ex.start]
    rw [e1, List.getElem?_map] at hu'
    rw [← Array.getElem?_toList]
    simp only [Array.toList_append, Array.toList_replicate, List.size_toArray, List.length_map]
    cases hh : (args.map (·.1) ++ List.replicate (n - args.length) undef)[t]? with
    | none => rw [hh] at hu'; simp at hu'
    | some u' => rw [hh] at hu'; simpa using hu'
  · rw [(hhp e (List.mem_of_getElem? he)).1] at ho; cases ho
  · rw [(hhp e (List.mem_of_getElem? he)).1] at ho; cases ho

theorem holds_of {e : Ent} {W W' : World} (h : e.holds W) (hh : W'.heap[e.g]? = W.heap[e.g]?) : e.holds W' := by
  unfold Ent.holds at *
  rw [hh]
  exact h
theorem holds_grown {e : Ent} {W W' : World} {row : Option Nat} (h : e.holds W) (hg : W.grownBy W' row) (hr : ∀ r, row = some r → ∃ o : Obj, W.heap[r]? = some o ∧ o.isCells = false) : e.holds W' := by
  have hlt := h.lt
  refine holds_of h (hg.block e.g hlt (fun e' => ?_))
  obtain ⟨o, h1, h2⟩ := hr _ e'.symm
  obtain ⟨fr, h3, _⟩ := h
  rw [h1] at h3
  cases h3
  cases h2

/-- the value, from the last number on -/
def hor (x : Nat) (pre : List Nat) : Nat := pre.foldl (hz x) 0
theorem hor_snoc (x : Nat) (pre : List Nat) (c : Nat) : hor x (pre ++ [c]) = hz x (hor x pre) c := by simp [hor]
theorem hor_lt (x : Nat) (pre : List Nat) : hor x pre < Q := by
  rcases List.eq_nil_or_concat pre with rfl | ⟨ini, c, rfl⟩
  · exact (by decide : 0 < Q)
  · rw [List.concat_eq_append, hor_snoc]
    exact Nat.mod_lt _ (by decide)

/-- between two rounds -/
structure AtI (w : World) (n : Nat) (a : AtA) (x v : Nat) (W : World) : Prop where
  sz : n ≤ W.heap.size
  b : Below w.heap.size w W
  x : (numE a.gx x true).holds W
  r : (numE a.gr 0 true).holds W
  m : (montO a.gm Q Q2 Qi).holds W
  f : (fieldE a.gf a.gm Q 0 [] true).holds W
  q : (cE a.gq a.gf true).holds W
  o : (numE a.go v true).holds W
theorem AtI.below {w : World} {n : Nat} {a : AtA} {x v : Nat} {W W' : World} (h : AtI w n a x v W) (k : Below W.heap.size W W') : AtI w n a x v W' := by
  have key : ∀ e : Ent, e.holds W → e.holds W' := fun e he => holds_of he (k.block _ he.lt)
  exact ⟨Nat.le_trans h.sz k.size, h.b.trans (k.mono h.b.size), key _ h.x, key _ h.r, key _ h.m, key _ h.f, key _ h.q, key _ h.o⟩
theorem AtI.grown {w : World} {n : Nat} {a : AtA} {x v : Nat} {W W' : World} {row : Option Nat} (h : AtI w n a x v W) (hg : W.grownBy W' row) (hn : w.heap.size ≤ n) (hr : ∀ r, row = some r → n ≤ r ∧ ∃ o : Obj, W.heap[r]? = some o ∧ o.isCells = false) : AtI w n a x v W' := by
  have key : ∀ e : Ent, e.holds W → e.holds W' := fun e he => holds_grown he hg (fun r e => (hr r e).2)
  exact ⟨Nat.le_trans h.sz hg.size, h.b.grown hg h.b.size (fun k e => Nat.le_trans hn (hr k e).1), key _ h.x, key _ h.r, key _ h.m, key _ h.f, key _ h.q, key _ h.o⟩

theorem nl1 {x : Nat} (hx : x < R) : NsH (nl x) 0 [x] where
  at_ := fun i k hk j v hv => by
    cases i with
    | zero =>
      simp only [List.getElem?_cons_zero, Option.some.injEq] at hk
      subst hk
      simpa using hv
    | succ i => simp at hk
  lt := fun k hk => by simp only [List.mem_cons, List.not_mem_nil, or_false] at hk; rw [hk]; exact hx
  n := Nat.le_of_ble_eq_true rfl

theorem fN_no {g h : Nat} {f : FuncId} {args : List Value} {v : Value} (hp : PureAt (fN g h Q Q2 Qi 0) f args v) : PureAt [fieldE g h Q 0 [] false, montE h Q Q2 Qi] f args v := hp.of fun w hw e he => by
  simp only [fN, List.mem_cons, List.not_mem_nil, or_false] at he
  rcases he with rfl | rfl
  · exact (hw (fieldE g h Q 0 [] false) (by simp)).weak rfl rfl rfl rfl
  · exact hw (montE h Q Q2 Qi) (by simp)
theorem fin_ret {P : Program} {rs : List ResultVar} {s : S} {E : List (It × It)} {v : Value} (h : fin P rs [] (some (.ret, s)) = some (E, v)) (hE : EqOk E) : ∃ vs E1, retAll P s.st rs = some (vs, E1) ∧ EqOk E1 ∧ pack vs = v := by
  simp only [fin] at h
  cases hr : retAll P s.st rs with
  | none => rw [hr] at h; cases h
  | some p =>
    obtain ⟨vs, E1⟩ := p
    rw [hr] at h
    simp only [Option.map_some, Option.some.injEq, Prod.mk.injEq] at h
    rw [← h.1] at hE
    exact ⟨vs, E1, rfl, hE.left, h.2⟩

abbrev NQ := { p : Nat × Nat // p.2 < Q }
def encQ (p : NQ) : Array Value := #[I (p.1.1 : Nat), NV p.1.2]
def backQ (l : List Nat) (h : ∀ k ∈ l, k < Q) (k : Nat) : NQ := ⟨(l.length - 1 - k, l[l.length - 1 - k]?.getD 0), by
  cases hh : l[l.length - 1 - k]? with
  | none => exact (by decide : 0 < Q)
  | some c => exact h c (List.mem_of_getElem? hh)⟩
def valQ (pre : List NQ) : List Nat := pre.map (·.1.2)

theorem eval_slot {a : Act} {t : Nat} {v : Value} (h : a.tmps[t]? = some v) : a.eval (.tmp t) = v := by
  show a.tmps.getD t undef = v
  simp [Array.getD_eq_getD_getElem?, h]

theorem mc_okF {F : Frm} {f : FuncId} {args : List Value} {need : List (Nat × Ent)} {v : Value} (h : PureAt (need.map (·.2)) f args v) : (mc f args need v).OkF Try.prog F :=
  Rec.ok_call fun _ w _ hn => h w fun e he => by
    rw [List.mem_map] at he
    obtain ⟨p, hp, rfl⟩ := he
    exact hn p hp

theorem look_mem {α : Type} {t : Nat} {v : α} : ∀ l : List (Nat × α), look t l = some v → (t, v) ∈ l
  | [], h => by cases h
  | (k, u) :: l, h => by
    simp only [look, cond_eq_ite] at h
    split at h
    · rename_i hb
      have hb' := Nat.eq_of_beq_eq_true hb
      simp only [Option.some.injEq] at h
      rw [← hb', h]
      exact List.mem_cons_self
    · exact List.mem_cons_of_mem _ (look_mem l h)
theorem slot_frOf {n t : Nat} {v : Value} {l : List (Nat × Value)} (h : slot (frOf n l) t = some v) : (t, v) ∈ l := by
  unfold slot frOf at h
  rw [List.getElem?_map] at h
  rcases Nat.lt_or_ge t n with hlt | hge
  · rw [List.getElem?_range hlt] at h
    exact look_mem l h
  · rw [List.getElem?_eq_none (by simpa using hge)] at h
    cases h

/-- a round's slots -/
theorem ro0_mod {a : AtA} {A : Act} {x : NQ} {W : World} (hN : A.tmps.size = 45) (h3 : A.tmps[3]? = some (PT a.gx)) (h6 : A.tmps[6]? = some (PT a.gq)) (h7 : A.tmps[7]? = some (PT a.go)) :
    Mod (Frm.of W) 45 (toX (ro0 a (I (x.1.1 : Nat)) x.1.2)) { tmps := ((#[28, 29] : Array Tmp).zip (encQ x)).foldl (fun t (p, v) => t.setIfInBounds p v) A.tmps, defers := [] } W := by
  have e : ((#[28, 29] : Array Tmp).zip (encQ x)).foldl (fun t (p, v) => t.setIfInBounds p v) A.tmps = (A.tmps.setIfInBounds 28 (I (x.1.1 : Nat))).setIfInBounds 29 (NV x.1.2) := by
    simp [encQ]
  rw [e]
  refine ⟨rfl, by simp [hN], fun t v hv => ?_, Frm.Keeps.refl (Frm.of W), fun k e he => (by cases he), fun k e he => (by cases he), fun k k' e e' _ he => (by cases he)⟩
  have hm := slot_frOf (n := 45) (l := [(3, PT a.gx), (6, PT a.gq), (7, PT a.go), (28, I (x.1.1 : Nat)), (29, NV x.1.2)]) hv
  simp only [List.mem_cons, Prod.mk.injEq, List.not_mem_nil, or_false] at hm
  rcases hm with ⟨rfl, rfl⟩ | ⟨rfl, rfl⟩ | ⟨rfl, rfl⟩ | ⟨rfl, rfl⟩ | ⟨rfl, rfl⟩
  · simp [h3]
  · simp [h6]
  · simp [h7]
  · simp [hN]
  · simp [hN]

/-- share.At -/
theorem f88_good {kg off cap x : Nat} {kc : List Value} {kt : TypeId} {l : List Nat} (H : NsH kc off l) (hd : deg l.length = true) (hs : scal l = true) (hx : x < Q) : PureAt [xE kg kc kt] 88 [SL kg off l.length cap, NV x] (.tuple #[NV (hor x l.reverse), I 0]) := by
  intro w hw
  refine (callsIn_wide (n := 3)).1 ?_
  refine callsIn_of_wp_marks Try.func88 (c := Fx Try.f88) rfl trivial ?_
  refine (wpIn_wide (n := 3)).2 ?_
  have hE := hw (xE kg kc kt) (by simp)
  have hkg : kg < w.heap.size := hE.lt
  have hlQ := scal_true hs
  have h96 := f96_ok (kg := kg) (cap := cap) (kt := kt) H
  rw [hs] at h96
  have h95 := f95_ok (n := l.length)
  rw [hd] at h95
  have hlow : ∀ w0 : World, (lc 96 (fun σ => [SL (σ 3) 0 1 1]) (fun σ => [(3, ⟨σ 3, nl x, [], 24, true⟩)]) (.bool true)).Ok Try.prog w0 := fun w0 => lc_ok fun σ => by
    have h := f96_ok (kg := σ 3) (cap := 1) (kt := 24) (nl1 (Nat.lt_trans hx Q_R))
    rw [scal_of (l := [x]) (fun k hk => by simp only [List.mem_cons, List.not_mem_nil, or_false] at hk; rw [hk]; exact hx)] at h
    refine h.of fun w hw e he => ?_
    simp only [List.mem_cons, List.not_mem_nil, or_false] at he
    subst he
    exact (hw ⟨σ 3, nl x, [], 24, true⟩ (by simp)).weak rfl rfl rfl rfl
  refine cut_wp follows 5 (Ex.start Try.f88.ntmps [(SL kg off l.length cap, .at_ 0), (NV x, .no)] [xE kg kc kt]) (fun γ => at5 (.of γ) (xE kg kc kt) (SL kg off l.length cap) x) 8 (at5Recs (xE kg kc kt) (SL kg off l.length cap) l.length x)
    (RecsOk.all ⟨pc_ok h95, mc_ok h96, hlow w, qb_ok, trivial⟩) (fun γ => at5_raw kg off l.length cap x kc kt γ) (start_mod _ _ w (fun e he => by simp only [List.mem_cons, List.not_mem_nil, or_false] at he; subst he; exact ⟨rfl, hE⟩)) rfl (fun γ a1 w1 hm1 hN1 => ?_)
  generalize AtA.of γ = a at hm1 hN1
  show c88.wp Try.prog _ a1 w1
  rw [c88_eq]
  refine wp_seq (wp_seq (wp_mono (code_wpN follows (at5 a (xE kg kc kt) (SL kg off l.length cap) x) (fun γ => at6 a (xE kg kc kt) (SL kg off l.length cap) x (γ 0)) .normal 8 [nc 125 [SL kg off l.length cap] 1 (fun δ => CL 136 (δ 0)) (fun δ => [⟨δ 0, [SL kg off l.length cap], [], 39, true⟩]) (.at_ 8)] (RecsOk.all ⟨nc_ok f125_ok, trivial⟩) (fun γ => at6_raw a (xE kg kc kt) (SL kg off l.length cap) x γ) hm1 hN1) ?_))
  rintro e a2 w2 ⟨γ', rfl, hm2, hN2⟩
  show (Code.block 0 _).wp Try.prog _ a2 w2
  generalize γ' 0 = B at hm2 hN2
  refine wp_block ((wpIn_wide (n := 3)).1 ?_)
  have hbel : Below w.heap.size w w2 := hm2.below.below
  have s3 : a2.tmps[3]? = some (PT a.gx) := hm2.slot 3 _ rfl
  have s4 : a2.tmps[4]? = some (PT a.gr) := hm2.slot 4 _ rfl
  have s6 : a2.tmps[6]? = some (PT a.gq) := hm2.slot 6 _ rfl
  have s7 : a2.tmps[7]? = some (PT a.go) := hm2.slot 7 _ rfl
  have s27 : a2.tmps[27]? = some (CL 136 B) := hm2.slot 27 _ rfl
  have hI0 : AtI w w2.heap.size a x 0 w2 := ⟨Nat.le_refl _, hbel, hm2.hold 1 _ rfl, hm2.hold 2 _ rfl, hm2.hold 4 _ rfl, hm2.hold 5 _ rfl, hm2.hold 6 _ rfl, hm2.hold 7 _ rfl⟩
  have hBh : (⟨B, [SL kg off l.length cap], [], 39, true⟩ : Ent).holds w2 := hm2.hold 8 _ rfl
  have nox : a.go ≠ a.gx := hm2.diff 7 1 _ _ (by decide) rfl rfl rfl
  have nor : a.go ≠ a.gr := hm2.diff 7 2 _ _ (by decide) rfl rfl rfl
  have nom : a.go ≠ a.gm := hm2.diff 7 4 _ _ (by decide) rfl rfl rfl
  have nof : a.go ≠ a.gf := hm2.diff 7 5 _ _ (by decide) rfl rfl rfl
  have noq : a.go ≠ a.gq := hm2.diff 7 6 _ _ (by decide) rfl rfl rfl
  have noB : a.go ≠ B := hm2.diff 7 8 _ _ (by decide) rfl rfl rfl
  have hgo : w.heap.size ≤ a.go := Nat.le_of_not_lt (hm2.own 7 _ rfl rfl)
  have hgr : w.heap.size ≤ a.gr := Nat.le_of_not_lt (hm2.own 2 _ rfl rfl)
  have hd2 : a2.defers = [] := hm2.defers
  have hz2 : a2.tmps.size = 45 := hm2.size.trans hN2.symm ▸ rfl
  have hBc : w2.cell? ⟨B, 0, none⟩ = some (SL kg off l.length cap) := cell_of_holds hBh _ rfl rfl
  have hkc : ∀ j, j < l.length → w2.rangeAt kg (off + j * 4) (nl (l[j]?.getD 0)) := fun j hj i v hv => by
    have hh : (xE kg kc kt).holds w2 := holds_of hE (hbel.block _ hkg)
    rw [cell_of_holds hh _ rfl rfl]
    obtain ⟨k, hk⟩ : ∃ k, l[j]? = some k := ⟨_, List.getElem?_eq_getElem hj⟩
    rw [hk] at hv
    exact H.at_ j k hk i v hv
  refine wpIn_rangeFunc_ownH (α := NQ) (encs := encQ) (Kp := KpB w.heap.size B) (N := l.length) (w0 := w2) (gf := 136) (lb := #[PT B]) rfl (by decide) (eval_slot s27) trivial (fun args w => enter_run Try.func136 (by kernel_rfl) rfl args w)
    (back_stops encQ (backQ l hlQ) Fence.wide 2 trivial rfl (by decide) B w.heap.size kg off cap l H.n hkg (fun k hk => rfl) w2 hbel.size hBh.lt hBc hkc) KpB.trans ?hKb (Below.refl _ _) (fun _ => rfl)
    (fun pre W => AtI w w2.heap.size a x (hor x (valQ pre)) W) (fun _ _ _ => False) (fun s W W' row hs hg hr => hs.grown hg hbel.size hr) (fun _ _ _ _ _ hs _ _ => hs) hI0
    (fun x a' W => ∃ gb, w2.heap.size ≤ gb ∧ a'.defers = [] ∧ a'.tmps.size = 45 ∧ a'.tmps[3]? = some (PT a.gx) ∧ a'.tmps[6]? = some (PT a.gq) ∧ a'.tmps[7]? = some (PT a.go) ∧ a'.tmps[9]? = some (PT gb) ∧ (numE gb x.1.2 true).holds W)
    (fun x a' s W W' row hs hg hr => by
      obtain ⟨gb, h1, h2, h3, h4, h5, h6, h7, h8⟩ := hs
      exact ⟨gb, h1, h2, h3, h4, h5, h6, h7, holds_grown h8 hg (fun r e => (hr r e).2)⟩) ?assign ?body ?done ?stop
  case hKb =>
    intro W r o o' hr h1 h2 h3
    refine ⟨belowK_b hbel.size W r o o' hr h1 h2 h3, World.putObj_heap_other ?_⟩
    have : B < w2.heap.size := hBh.lt
    omega
  case assign =>
    intro r pre p W K hI hK
    refine wpIn_mono (code_wpS c88_A (ro0 a (I (p.1.1 : Nat)) p.1.2) (fun γ => ro1 a (γ 0) p.1.2) 8 [] (fun r hr => by cases hr) (fun γ => ro1_raw a _ _ γ) (ro0_mod hz2 s3 s6 s7) rfl r _) ?_
    rintro e a' W' ⟨γ, rfl, hm, hN⟩
    have hb : Below W.heap.size W W' := hm.below.below
    have hBW : B < W.heap.size := Nat.lt_of_lt_of_le hBh.lt hI.sz
    refine hK a' W' ⟨hb.size, fun k o _ hk _ => (hb.block k (Array.getElem?_eq_some_iff.1 hk).1).trans hk⟩ ⟨hb.mono hI.b.size, hb.block B hBW⟩ (hI.below hb) ⟨γ 0, ?_, hm.defers, hm.size, hm.slot 3 _ rfl, hm.slot 6 _ rfl, hm.slot 7 _ rfl, hm.slot 9 _ rfl, hm.hold 0 _ rfl⟩
    exact Nat.le_trans hI.sz (Nat.le_of_not_lt (hm.own 0 _ rfl rfl))
  case body =>
    rintro r pre p a' W _ _ hI ⟨gb, g1, g2, g3, g4, g5, g6, g7, g8⟩ _
    have hgoW : a.go < W.heap.size := hI.o.lt
    have hgb : gb ≠ a.go := by
      have : a.go < w2.heap.size := hI0.o.lt
      omega
    have hv : hor x (valQ pre) < Q := hor_lt x _
    have hc : p.1.2 < Q := p.2
    have h31 := fN_no (f31_ok (g := a.gf) (h := a.gm) (root := 0) montQ hv hx)
    have hml : hor x (valQ pre) * x % Q < Q := Nat.mod_lt _ (by decide)
    have h30 := fN_no (f30_ok (g := a.gf) (h := a.gm) (r2 := Q2) (inv := Qi) (root := 0) Q_R hml hc)
    have es : hor x (valQ (pre ++ [p])) = (hor x (valQ pre) * x % Q + p.1.2) % Q := by
      unfold valQ
      rw [List.map_append]
      exact hor_snoc _ _ _
    refine wpIn_mono (Q := fun e _ W' => e = .normal ∧ KeepsFrom w2.heap.size W W' ∧ KpB w.heap.size B W W' ∧ AtI w w2.heap.size a x ((hor x (valQ pre) * x % Q + p.1.2) % Q) W') ?_ (by
      rintro e a'' W' ⟨rfl, h1, h2, h3⟩
      exact ⟨h1, h2, by show AtI w w2.heap.size a x (hor x (valQ (pre ++ [p]))) W'; rw [es]; exact h3⟩)
    clear es
    generalize (hor x (valQ pre) * x % Q + p.1.2) % Q = s at *
    generalize hor x (valQ pre) * x % Q = m at *
    generalize hor x (valQ pre) = v at *
    generalize p.1.2 = c at *
    have hm : Mod ⟨W, fun k => k < W.heap.size ∧ k ≠ a.go, fun _ h => h.1, []⟩ 45 (toX (ro2 a x v gb c)) a' W := by
      refine ⟨g2, g3, fun t u hu => ?_, Frm.Keeps.refl _, fun k e he => ?_, fun k e he ho => ?_, fun k k' e e' hne he he' ho => ?_⟩
      · have hmem := slot_frOf (n := 45) (l := [(3, PT a.gx), (6, PT a.gq), (7, PT a.go), (9, PT gb)]) hu
        simp only [List.mem_cons, Prod.mk.injEq, List.not_mem_nil, or_false] at hmem
        rcases hmem with ⟨rfl, rfl⟩ | ⟨rfl, rfl⟩ | ⟨rfl, rfl⟩ | ⟨rfl, rfl⟩
        · exact g4
        · exact g5
        · exact g6
        · exact g7
      · have he' : (roH a x v gb c)[k]? = some e := he
        have hmem := List.mem_of_getElem? he'
        simp only [roH, List.mem_cons, List.not_mem_nil, or_false] at hmem
        rcases hmem with rfl | rfl | rfl | rfl | rfl | rfl
        · exact hI.x.weak rfl rfl rfl rfl
        · exact hI.q.weak rfl rfl rfl rfl
        · exact hI.f.weak rfl rfl rfl rfl
        · exact hI.m.weak rfl rfl rfl rfl
        · exact hI.o
        · exact g8.weak rfl rfl rfl rfl
      · have he' : (roH a x v gb c)[k]? = some e := he
        have hmem := List.mem_of_getElem? he'
        simp only [roH, List.mem_cons, List.not_mem_nil, or_false] at hmem
        rcases hmem with rfl | rfl | rfl | rfl | rfl | rfl
        · cases ho
        · cases ho
        · cases ho
        · cases ho
        · exact fun hh => hh.2 rfl
        · cases ho
      · have he1 : (roH a x v gb c)[k]? = some e := he
        have he2 : (roH a x v gb c)[k']? = some e' := he'
        rcases k with _ | _ | _ | _ | _ | _ | k
        · cases he1; cases ho
        · cases he1; cases ho
        · cases he1; cases ho
        · cases he1; cases ho
        · cases he1
          rcases k' with _ | _ | _ | _ | _ | _ | k'
          · cases he2; exact nox
          · cases he2; exact noq
          · cases he2; exact nof
          · cases he2; exact nom
          · exact absurd rfl hne
          · cases he2; exact hgb.symm
          · cases he2
        · cases he1; cases ho
        · cases he1
    refine wpIn_mono (code_wpS c88_B (ro2 a x v gb c) (fun _ => ro2 a x s gb c) 8 (roR a x v m c s) (fun r hr => ?_) (fun γ => ro2_raw a x v gb c m s γ) hm rfl r _) ?_
    · simp only [roR, List.mem_cons, List.not_mem_nil, or_false] at hr
      rcases hr with rfl | rfl
      · exact mc_okF h31
      · exact mc_okF h30
    rintro e a'' W' ⟨γ, rfl, hm', hN'⟩
    have hk := hm'.below
    have hB2 : Below w.heap.size W W' := ⟨hk.os, hk.tape, hk.output, hk.size, fun k hk1 => hk.block k ⟨Nat.lt_of_lt_of_le hk1 hI.b.size, by omega⟩⟩
    have hBW : B < W.heap.size := Nat.lt_of_lt_of_le hBh.lt hI.sz
    have key : ∀ e : Ent, e.holds W → a.go ≠ e.g → e.holds W' := fun e he hne => holds_of he (hk.block _ ⟨he.lt, hne.symm⟩)
    refine ⟨rfl, ⟨hk.size, fun k o _ hk1 ho => ?_⟩, ⟨hB2, hk.block B ⟨hBW, noB.symm⟩⟩, ⟨Nat.le_trans hI.sz hk.size, hI.b.trans hB2, key _ hI.x nox, key _ hI.r nor, key _ hI.m nom, key _ hI.f nof, key _ hI.q noq, hm'.hold 4 _ rfl⟩⟩
    refine (hk.block k ⟨(Array.getElem?_eq_some_iff.1 hk1).1, fun hh => ?_⟩).trans hk1
    obtain ⟨fr, h3, _⟩ := hI.o
    rw [hh] at hk1
    rw [show (numE a.go v true).g = a.go from rfl] at h3
    rw [h3] at hk1
    cases hk1
    cases ho
  case done =>
    rintro D xs W hD rfl hI hK
    have ev : valQ (upto (backQ l hlQ) l.length) = l.reverse := by
      unfold valQ upto
      apply List.ext_getElem
      · simp
      · intro i h1 h2
        have hi : l.length - 1 - i < l.length := by simp at h2; omega
        simp [backQ, List.getElem?_eq_getElem hi]
    rw [ev] at hI
    generalize hor x l.reverse = v at *
    show c88z.wp Try.prog _ _ W
    rw [hd2]
    have hgrW : a.gr < W.heap.size := hI.r.lt
    have hm : Mod ⟨W, fun k => k < W.heap.size ∧ k ≠ a.gr, fun _ h => h.1, [{ target := .collected D, args := #[] }]⟩ 45 (toX (fi0 a v)) { a2 with defers := [{ target := .collected D, args := #[] }] } W := by
      refine ⟨rfl, hz2, fun t u hu => ?_, Frm.Keeps.refl _, fun k e he => ?_, fun k e he ho => ?_, fun k k' e e' hne he he' ho => ?_⟩
      · have hmem := slot_frOf (n := 45) (l := [(4, PT a.gr), (7, PT a.go)]) hu
        simp only [List.mem_cons, Prod.mk.injEq, List.not_mem_nil, or_false] at hmem
        rcases hmem with ⟨rfl, rfl⟩ | ⟨rfl, rfl⟩
        · exact s4
        · exact s7
      · have he' : [numE a.gr 0 true, numE a.go v false][k]? = some e := he
        have hmem := List.mem_of_getElem? he'
        simp only [List.mem_cons, List.not_mem_nil, or_false] at hmem
        rcases hmem with rfl | rfl
        · exact hI.r
        · exact hI.o.weak rfl rfl rfl rfl
      · have he' : [numE a.gr 0 true, numE a.go v false][k]? = some e := he
        have hmem := List.mem_of_getElem? he'
        simp only [List.mem_cons, List.not_mem_nil, or_false] at hmem
        rcases hmem with rfl | rfl
        · exact fun hh => hh.2 rfl
        · cases ho
      · have he1 : [numE a.gr 0 true, numE a.go v false][k]? = some e := he
        have he2 : [numE a.gr 0 true, numE a.go v false][k']? = some e' := he'
        rcases k with _ | _ | k
        · cases he1
          rcases k' with _ | _ | k'
          · exact absurd rfl hne
          · cases he2; exact nor.symm
          · cases he2
        · cases he1; cases ho
        · cases he1
    refine wp_mono (code_wpN follows (fi0 a v) (fun _ => fi1 a v) .ret 8 [] (fun r hr => by cases hr) (fun γ => fi_raw a v γ) hm rfl) ?_
    rintro e a'' W' ⟨γ, rfl, hm', hN'⟩
    show LeavesInM Fence.wide 3 Try.prog Try.f88 a''.tmps _ a''.defers .returning W'
    rw [hm'.defers]
    have hk := hm'.below
    have hDr : D ≠ a.gr := fun hh => by
      obtain ⟨fr, h3, _⟩ := hI.r
      rw [show (numE a.gr 0 true).g = a.gr from rfl, ← hh, hK] at h3
      cases h3
    have hK' : W'.heap[D]? = some (.deferred (some [])) := (hk.block D ⟨(Array.getElem?_eq_some_iff.1 hK).1, hDr⟩).trans hK
    refine ⟨by simp, .inl ⟨D, _, rfl, run_takeDeferred hK', ?_⟩⟩
    have hm'' : Mod ⟨W'.putObj D (.deferred none), fun _ => False, fun _ h => h.elim, a''.defers⟩ 45 (toX (fi1 a v)) a'' (W'.putObj D (.deferred none)) := by
      refine ⟨rfl, hm'.size, hm'.slot, Frm.Keeps.refl _, fun k e he => ?_, fun k e he ho hh => hh.elim, hm'.diff⟩
      exact holds_grown (hm'.hold k e he) (grownBy_putObj' _ D (.deferred none)) (fun r e => by cases e; exact ⟨_, hK', rfl⟩)
    obtain ⟨E, h1, h2⟩ := out_eq (show outL Try.prog Try.f88.results.toList [] (some (.ret, ⟨fi1 a v, [], [], []⟩)) = outR Try.prog Try.f88.results.toList [] (.tuple #[NV v, I 0]) (some (.ret, ⟨fi1 a v, [], [], []⟩)) by kernel_rfl)
    obtain ⟨vs, E1, h3, h4, h5⟩ := fin_ret h1 h2
    refine ⟨_, results_run hm'' h3 h4, by rw [h5], ?_⟩
    have hB2 : Below w.heap.size W W' := ⟨hk.os, hk.tape, hk.output, hk.size, fun k hk1 => hk.block k ⟨Nat.lt_of_lt_of_le hk1 hI.b.size, by omega⟩⟩
    exact (hI.b.trans hB2).trans (belowK_b (w := w) (Nat.le_refl _) W' D _ _ (Nat.le_trans hbel.size hD) hK' rfl rfl)
  case stop =>
    intro D c pre W _ _ h
    exact h.elim

theorem f88_deg {ka : Option Addr} {n cap x : Nat} (hd : deg n = false) : Pure 88 [.slice ka n cap, NV x] (.tuple #[NV 0, I 1]) := by
  have h95 := f95_ok (n := n)
  rw [hd] at h95
  exact pure_of Try.func88 rfl 8 [.slice ka n cap, NV x] [pc 95 [I n] (.bool false)] _ (fun _ => ⟨pc_ok h95, trivial⟩) (fun γ => by kernel_rfl)
theorem f88_rng {kg off cap x : Nat} {kc : List Value} {kt : TypeId} {l : List Nat} (H : NsH kc off l) (hd : deg l.length = true) (hs : scal l = false) : PureAt [xE kg kc kt] 88 [SL kg off l.length cap, NV x] (.tuple #[NV 0, I 20]) := by
  have h95 := f95_ok (n := l.length)
  rw [hd] at h95
  have h96 := f96_ok (kg := kg) (cap := cap) (kt := kt) H
  rw [hs] at h96
  exact pureAt_of Try.func88 rfl 8 [(SL kg off l.length cap, .at_ 0), (NV x, .no)] [xE kg kc kt] [pc 95 [I l.length] (.bool true), mc 96 [SL kg off l.length cap] [(0, xE kg kc kt)] (.bool false)] _ rfl (fun _ => ⟨pc_ok h95, mc_ok h96, trivial⟩) (fun γ => by kernel_rfl)

end Go.Proofs.Ytildcmggcbdhpaa
