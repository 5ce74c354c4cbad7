/- Lists of numbers that are scalars, lists of points that are points: share.scalars and the document's answers. No conditions but that the slices' numbers and points stand where their values say. -/
import Derived.Test.YtildcmggcbdhpaaRefI
namespace Go.Proofs.Ytildcmggcbdhpaa
open Go.Ex Go.RowKit Lim
set_option maxRecDepth 100000

/-- a piece of code, from one state to another -/
abbrev Goes (c : Code) (s : St) (recs : List Rec) (γ : Nat → Nat) (o : Out) (t : St) : Prop :=
  endL t (exec Try.prog c ⟨s, (List.range 8).map γ, recs, []⟩) = endR o t (exec Try.prog c ⟨s, (List.range 8).map γ, recs, []⟩)

/-- numbers in a row -/
structure NsH (kc : List Value) (off : Nat) (l : List Nat) : Prop where
  at_ : ∀ i k, l[i]? = some k → ∀ j v, (nl k)[j]? = some v → kc[off + i * 4 + j]? = some v
  lt : ∀ k ∈ l, k < R
  n : l.length ≤ 64
/-- points in a row -/
structure PsH (pc : List Value) (off : Nat) (l : List W9) : Prop where
  at_ : ∀ i p, l[i]? = some p → ∀ j v, (W9.l p)[j]? = some v → pc[off + i * 9 + j]? = some v
  lt : ∀ p ∈ l, p.lt
  n : l.length ≤ 64

def gqX (n m : Nat) : Value := .bool (decide ((n : Int) ≥ (m : Int)))
theorem gqX_true {n m : Nat} (h : m ≤ n) : gqX n m = .bool true := by unfold gqX; rw [decide_eq_true (by omega)]
theorem gqX_false {n m : Nat} (h : n < m) : gqX n m = .bool false := by unfold gqX; rw [decide_eq_false (by omega)]
def lqX (n m : Nat) : Value := .bool (decide ((n : Int) ≤ (m : Int)))
theorem lqX_true {n m : Nat} (h : n ≤ m) : lqX n m = .bool true := by unfold lqX; rw [decide_eq_true (by omega)]
theorem lqX_false {n m : Nat} (h : m < n) : lqX n m = .bool false := by unfold lqX; rw [decide_eq_false (by omega)]

/-- how many there may be -/
def deg (n : Nat) : Bool := decide (1 ≤ n) && decide (n ≤ 10)
theorem deg_true {n : Nat} (h : deg n = true) : 1 ≤ n ∧ n ≤ 10 := by simpa [deg] using h
theorem deg_false {n : Nat} (h : deg n = false) : n < 1 ∨ 10 < n := by
  simp [deg] at h
  omega

/-- share.degree -/
theorem f95_ok {n : Nat} : Pure 95 [I n] (.bool (deg n)) := by
  cases h : deg n with
  | true =>
    have := deg_true h
    exact pure_of Try.func95 rfl 8 [I n] [rn 4 (gqX n 1) (.bool true), rn 7 (lqX n 10) (.bool true)] _ (fun _ => ⟨rn_ok (gqX_true this.1), rn_ok (lqX_true this.2), trivial⟩) (fun γ => by kernel_rfl)
  | false =>
    by_cases h1 : 1 ≤ n
    · have := deg_false h
      exact pure_of Try.func95 rfl 8 [I n] [rn 4 (gqX n 1) (.bool true), rn 7 (lqX n 10) (.bool false)] _ (fun _ => ⟨rn_ok (gqX_true h1), rn_ok (lqX_false (by omega)), trivial⟩) (fun γ => by kernel_rfl)
    · exact pure_of Try.func95 rfl 8 [I n] [rn 4 (gqX n 1) (.bool false)] _ (fun _ => ⟨rn_ok (gqX_false (by omega)), trivial⟩) (fun γ => by kernel_rfl)
/-- feld.many -/
theorem f92_ok {n : Nat} : Pure 92 [I n] (.bool (deg n)) := by
  cases h : deg n with
  | true =>
    have := deg_true h
    exact pure_of Try.func92 rfl 8 [I n] [rn 4 (gqX n 1) (.bool true), rn 7 (lqX n 10) (.bool true)] _ (fun _ => ⟨rn_ok (gqX_true this.1), rn_ok (lqX_true this.2), trivial⟩) (fun γ => by kernel_rfl)
  | false =>
    by_cases h1 : 1 ≤ n
    · have := deg_false h
      exact pure_of Try.func92 rfl 8 [I n] [rn 4 (gqX n 1) (.bool true), rn 7 (lqX n 10) (.bool false)] _ (fun _ => ⟨rn_ok (gqX_true h1), rn_ok (lqX_false (by omega)), trivial⟩) (fun γ => by kernel_rfl)
    · exact pure_of Try.func92 rfl 8 [I n] [rn 4 (gqX n 1) (.bool false)] _ (fun _ => ⟨rn_ok (gqX_false (by omega)), trivial⟩) (fun γ => by kernel_rfl)

def CL (f c : Nat) : Value := .func (.func f) #[] #[PT c]
def cE (c g : Nat) (own : Bool) : Ent := ⟨c, [PT g], [], 49, own⟩
def ixM (c g h : Nat) : List Ent := [cE c g false, fieldE g h Q 0 [] false, montE h Q Q2 Qi]
def ixN (e : Ent) (c g h : Nat) : List Ent := e :: ixM c g h

/-- share.scalars's function -/
theorem f127_ok {c g h k : Nat} (hk : k < R) : PureAt (ixM c g h) 127 [NV k, PT c] (.bool (decide (Q ≤ k))) := by
  have key : ∀ e : Nat, PureAt (fN g h Q Q2 Qi 0) 68 [PT g, NV k] (I (e : Nat)) → PureAt ([(1, fieldE g h Q 0 [] false), (2, montE h Q Q2 Qi)].map (·.2)) 68 [PT g, NV k] (I (e : Nat)) := fun e hp => hp.of fun w hw e he => by
    simp only [fN, List.mem_cons, List.not_mem_nil, or_false] at he
    rcases he with rfl | rfl
    · exact (hw (fieldE g h Q 0 [] false) (by simp)).weak rfl rfl rfl rfl
    · exact hw (montE h Q Q2 Qi) (by simp)
  by_cases hq : Q ≤ k
  · rw [decide_eq_true hq]
    exact pureAt_of Try.func127 rfl 8 [(NV k, .no), (PT c, .at_ 0)] (ixM c g h) [mc 68 [PT g, NV k] [(1, fieldE g h Q 0 [] false), (2, montE h Q Q2 Qi)] (I (20 : Nat))] _ rfl (fun _ => ⟨mc_ok (key 20 (f68_out Q_R hq hk)), trivial⟩) (fun γ => by kernel_rfl)
  · rw [decide_eq_false hq]
    exact pureAt_of Try.func127 rfl 8 [(NV k, .no), (PT c, .at_ 0)] (ixM c g h) [mc 68 [PT g, NV k] [(1, fieldE g h Q 0 [] false), (2, montE h Q Q2 Qi)] (I (0 : Nat))] _ rfl (fun _ => ⟨mc_ok (key 0 (f68_in Q_R (by omega))), trivial⟩) (fun γ => by kernel_rfl)

noncomputable def ixL : Code := (loopsOf (Fx Try.f137)).getD 0 .skip
def ixS (e : Ent) (kv : Value) (c g h n i : Nat) : St := ⟨frOf 19 [(0, kv), (1, CL 127 c), (7, I (n : Nat)), (8, I (i : Nat))], tgOf 19 [(0, .at_ 0)], ixN e c g h⟩
def ixR (e : Ent) (c g h i : Nat) : St := ⟨frOf 19 [(4, I (i : Nat))], tgOf 19 [], ixN e c g h⟩
def ixC (c g h k : Nat) (b : Bool) : Rec := mc 127 [NV k, PT c] [(1, cE c g false), (2, fieldE g h Q 0 [] false), (3, montE h Q Q2 Qi)] (.bool b)
def ixHd (e : Ent) (off cap c g h n i k : Nat) (b : Bool) : List Rec := [rn 9 (lsX i n) (.bool true), ixF 14 39 e.g off n cap i (off + i * 4), ldF 15 0 e 24 (off + i * 4) (NV k), ixC c g h k b]
theorem ix_go (e : Ent) (off cap c g h n i k : Nat) (γ : Nat → Nat) : Goes ixL (ixS e (SL e.g off n cap) c g h n i) (ixHd e off cap c g h n i k false ++ [rn 18 (adX i) (I (i + 1 : Nat))]) γ .normal (ixS e (SL e.g off n cap) c g h n (i + 1)) := by
  show _ = _; kernel_rfl
theorem ix_bad (e : Ent) (off cap c g h n i k : Nat) (γ : Nat → Nat) : Goes ixL (ixS e (SL e.g off n cap) c g h n i) (ixHd e off cap c g h n i k true) γ .ret (ixR e c g h i) := by
  show _ = _; kernel_rfl
theorem ix_out (e : Ent) (kv : Value) (c g h n i : Nat) (γ : Nat → Nat) : Goes ixL (ixS e kv c g h n i) [rn 9 (lsX i n) (.bool false)] γ (.exit 0) (ixS e kv c g h n i) := by
  show _ = _; kernel_rfl

section
variable {kg off cap c g h : Nat} {kc : List Value} {kt : TypeId} {l : List Nat} {w0 : World}
theorem ixHd_ok (H : NsH kc off l) {i k : Nat} (hq : l[i]? = some k) {b : Bool} (hb : decide (Q ≤ k) = b) : RecsOk w0 (ixHd (xE kg kc kt) off cap c g h l.length i k b) :=
  ⟨rn_ok (lsX_true (lt_of_get hq)), ixF_ok sl39 sz24 (lt_of_get hq) rfl, ldN_ok (H.at_ i k hq), mc_ok (hb ▸ f127_ok (H.lt k (List.mem_of_getElem? hq))), trivial⟩

theorem ixEnd_ok (H : NsH kc off l) (hg : ∀ k ∈ l, k < Q) : (Rec.code ixL (fun _ => ixS (xE kg kc kt) (SL kg off l.length cap) c g h l.length 0) (fun _ => ixS (xE kg kc kt) (SL kg off l.length cap) c g h l.length l.length) (.exit 0)).Ok Try.prog w0 := by
  refine Rec.ok_code follows (fun _ i => ixS (xE kg kc kt) (SL kg off l.length cap) c g h l.length i) (fun i => i ≤ l.length) (fun i => l.length - i) (.exit 0) (fun _ => ixS (xE kg kc kt) (SL kg off l.length cap) c g h l.length l.length) (fun h => by cases h) 0 (Nat.zero_le _) (fun gl i hi => ?_)
  have hn := H.n
  by_cases hlt : i < l.length
  · obtain ⟨k, hq⟩ : ∃ k, l[i]? = some k := ⟨_, List.getElem?_eq_getElem hlt⟩
    have := hg k (List.mem_of_getElem? hq)
    exact .go (i + 1) (by omega) (by omega) 8 _ ((ixHd_ok H hq (b := false) (decide_eq_false (by omega))).append (m := [rn 18 (adX i) (I (i + 1 : Nat))]) ⟨rn_ok (adX_eq (by omega)), trivial⟩).all (fun γ => ix_go (xE kg kc kt) off cap c g h l.length i k γ)
  · have e : i = l.length := by omega
    subst e
    exact .stop 8 [rn 9 (lsX l.length l.length) (.bool false)] (RecsOk.all ⟨rn_ok (lsX_false (by omega)), trivial⟩) (fun γ => ix_out _ _ c g h l.length l.length γ)
theorem ixBad_ok (H : NsH kc off l) {i0 k0 : Nat} (hq0 : l[i0]? = some k0) (hk0 : Q ≤ k0) (hg : ∀ j k, j < i0 → l[j]? = some k → k < Q) :
    (Rec.code ixL (fun _ => ixS (xE kg kc kt) (SL kg off l.length cap) c g h l.length 0) (fun _ => ixR (xE kg kc kt) c g h i0) .ret).Ok Try.prog w0 := by
  refine Rec.ok_code follows (fun _ i => ixS (xE kg kc kt) (SL kg off l.length cap) c g h l.length i) (fun i => i ≤ i0) (fun i => i0 - i) .ret (fun _ => ixR (xE kg kc kt) c g h i0) (fun h => by cases h) 0 (Nat.zero_le _) (fun gl i hi => ?_)
  have hn := H.n
  have hlt0 := lt_of_get hq0
  by_cases hlt : i < i0
  · obtain ⟨k, hq⟩ : ∃ k, l[i]? = some k := ⟨_, List.getElem?_eq_getElem (by omega)⟩
    have := hg i k hlt hq
    exact .go (i + 1) (by omega) (by omega) 8 _ ((ixHd_ok H hq (b := false) (decide_eq_false (by omega))).append (m := [rn 18 (adX i) (I (i + 1 : Nat))]) ⟨rn_ok (adX_eq (by omega)), trivial⟩).all (fun γ => ix_go (xE kg kc kt) off cap c g h l.length i k γ)
  · have e : i = i0 := by omega
    subst e
    exact .stop 8 _ (ixHd_ok H hq0 (b := true) (decide_eq_true hk0)).all (fun γ => ix_bad (xE kg kc kt) off cap c g h l.length i k0 γ)

/-- all, or the first that is not -/
theorem all_or {α : Type} (p : α → Bool) (l : List α) : (∀ k ∈ l, p k = true) ∨ ∃ (i : Nat) (k : α), l[i]? = some k ∧ p k = false ∧ ∀ (j : Nat) (k : α), j < i → l[j]? = some k → p k = true := by
  induction l with
  | nil => exact .inl fun k hk => by cases hk
  | cons a l ih =>
    cases ha : p a with
    | false => exact .inr ⟨0, a, rfl, ha, fun j k hj => by omega⟩
    | true =>
      rcases ih with h | ⟨i, k, h1, h2, h3⟩
      · exact .inl fun k hk => by
          rcases List.mem_cons.1 hk with rfl | hk
          · exact ha
          · exact h k hk
      · refine .inr ⟨i + 1, k, h1, h2, fun j k hj hk => ?_⟩
        cases j with
        | zero => simp at hk; exact hk ▸ ha
        | succ j => exact h3 j k (by omega) (by simpa using hk)

def scal (l : List Nat) : Bool := l.all fun k => decide (k < Q)
theorem scal_true {l : List Nat} (h : scal l = true) : ∀ k ∈ l, k < Q := by simpa [scal] using h
theorem scal_of {l : List Nat} (h : ∀ k ∈ l, k < Q) : scal l = true := by simpa [scal] using h
theorem scal_no {l : List Nat} {i k : Nat} (h : l[i]? = some k) (hk : Q ≤ k) : scal l = false := by
  cases hs : scal l with
  | false => rfl
  | true => have := scal_true hs k (List.mem_of_getElem? h); omega

/-- slices.ContainsFunc, slices.IndexFunc, of share.scalars's function -/
theorem f126_ok (H : NsH kc off l) : PureAt (ixN (xE kg kc kt) c g h) 126 [SL kg off l.length cap, CL 127 c] (.bool (!scal l)) := by
  rcases all_or (fun k => decide (k < Q)) l with hg | ⟨i, k, h1, h2, h3⟩
  · have hg' : ∀ k ∈ l, k < Q := fun k hk => by simpa using hg k hk
    rw [scal_of hg']
    have hr := fun w0 : World => ixEnd_ok (kg := kg) (cap := cap) (c := c) (g := g) (h := h) (kt := kt) (w0 := w0) H hg'
    have h137 : PureAt (ixN (xE kg kc kt) c g h) 137 [SL kg off l.length cap, CL 127 c] (I (-1)) :=
      pureAt_of Try.func137 rfl 8 [(SL kg off l.length cap, .at_ 0), (CL 127 c, .no)] (ixN (xE kg kc kt) c g h) [_] _ rfl (fun w => ⟨hr w, trivial⟩) (fun γ => by kernel_rfl)
    exact pureAt_of Try.func126 rfl 8 [(SL kg off l.length cap, .at_ 0), (CL 127 c, .no)] (ixN (xE kg kc kt) c g h) [mc 137 [SL kg off l.length cap, CL 127 c] [(0, xE kg kc kt), (1, cE c g false), (2, fieldE g h Q 0 [] false), (3, montE h Q Q2 Qi)] (I (-1))] _ rfl (fun w => ⟨mc_ok h137, trivial⟩) (fun γ => by kernel_rfl)
  · have hk : Q ≤ k := by simpa using h2
    rw [scal_no h1 hk]
    have hr := fun w0 : World => ixBad_ok (kg := kg) (cap := cap) (c := c) (g := g) (h := h) (kt := kt) (w0 := w0) H h1 hk (fun j k hj hjk => by simpa using h3 j k hj hjk)
    have h137 : PureAt (ixN (xE kg kc kt) c g h) 137 [SL kg off l.length cap, CL 127 c] (I (i : Nat)) :=
      pureAt_of Try.func137 rfl 8 [(SL kg off l.length cap, .at_ 0), (CL 127 c, .no)] (ixN (xE kg kc kt) c g h) [_] _ rfl (fun w => ⟨hr w, trivial⟩) (fun γ => by kernel_rfl)
    exact pureAt_of Try.func126 rfl 8 [(SL kg off l.length cap, .at_ 0), (CL 127 c, .no)] (ixN (xE kg kc kt) c g h) [mc 137 [SL kg off l.length cap, CL 127 c] [(0, xE kg kc kt), (1, cE c g false), (2, fieldE g h Q 0 [] false), (3, montE h Q Q2 Qi)] (I (i : Nat)), rn 8 (gqX i 0) (.bool true)] _ rfl (fun w => ⟨mc_ok h137, rn_ok (gqX_true (by omega)), trivial⟩) (fun γ => by kernel_rfl)

/-- share.scalars -/
theorem f96_ok (H : NsH kc off l) : PureAt [xE kg kc kt] 96 [SL kg off l.length cap] (.bool (scal l)) := by
  have h126 : ∀ w0 : World, (lc 126 (fun σ => [SL kg off l.length cap, CL 127 (σ 3)]) (fun σ => [(0, xE kg kc kt), (1, montO (σ 1) Q Q2 Qi), (2, fieldE (σ 2) (σ 1) Q 0 [] true), (3, cE (σ 3) (σ 2) true)]) (.bool (!scal l))).Ok Try.prog w0 := fun w0 => lc_ok fun σ => by
    refine (f126_ok (c := σ 3) (g := σ 2) (h := σ 1) (kg := kg) (cap := cap) (kt := kt) H).of fun w hw e he => ?_
    simp only [ixN, ixM, List.mem_cons, List.not_mem_nil, or_false] at he
    rcases he with rfl | rfl | rfl | rfl
    · exact hw (xE kg kc kt) (by simp)
    · exact (hw (cE (σ 3) (σ 2) true) (by simp)).weak rfl rfl rfl rfl
    · exact (hw (fieldE (σ 2) (σ 1) Q 0 [] true) (by simp)).weak rfl rfl rfl rfl
    · exact (hw (montO (σ 1) Q Q2 Qi) (by simp)).weak rfl rfl rfl rfl
  cases hs : scal l with
  | true =>
    rw [hs] at h126
    exact pureAt_of Try.func96 rfl 8 [(SL kg off l.length cap, .at_ 0)] [xE kg kc kt] [qb 1, _] _ rfl (fun w => ⟨qb_ok, h126 w, trivial⟩) (fun γ => by kernel_rfl)
  | false =>
    rw [hs] at h126
    exact pureAt_of Try.func96 rfl 8 [(SL kg off l.length cap, .at_ 0)] [xE kg kc kt] [qb 1, _] _ rfl (fun w => ⟨qb_ok, h126 w, trivial⟩) (fun γ => by kernel_rfl)
end


/-- a loop over a row: all is well -/
theorem scan_end {c : Code} (L : List Nat → Nat → St) (post : List Nat → St) (x : Nat) (n : Nat) {w0 : World}
    (go : ∀ i, i < n → ∃ recs, RecsOk w0 recs ∧ ∀ gl γ, Goes c (L gl i) recs γ .normal (L gl (i + 1)))
    (out : ∃ recs, RecsOk w0 recs ∧ ∀ gl γ, Goes c (L gl n) recs γ (.exit x) (post gl)) : (Rec.code c (fun gl => L gl 0) post (.exit x)).Ok Try.prog w0 := by
  refine Rec.ok_code follows L (fun i => i ≤ n) (fun i => n - i) (.exit x) post (fun h => by cases h) 0 (Nat.zero_le _) (fun gl i hi => ?_)
  by_cases hlt : i < n
  · obtain ⟨recs, h1, h2⟩ := go i hlt
    exact .go (i + 1) (by omega) (by omega) 8 recs h1.all (fun γ => h2 gl γ)
  · have e : i = n := by omega
    subst e
    obtain ⟨recs, h1, h2⟩ := out
    exact .stop 8 recs h1.all (fun γ => h2 gl γ)
/-- .. or it is left at the i0-th -/
theorem scan_bad {c : Code} (L : List Nat → Nat → St) (post : List Nat → St) (i0 : Nat) {w0 : World}
    (go : ∀ i, i < i0 → ∃ recs, RecsOk w0 recs ∧ ∀ gl γ, Goes c (L gl i) recs γ .normal (L gl (i + 1)))
    (out : ∃ recs, RecsOk w0 recs ∧ ∀ gl γ, Goes c (L gl i0) recs γ .ret (post gl)) : (Rec.code c (fun gl => L gl 0) post .ret).Ok Try.prog w0 := by
  refine Rec.ok_code follows L (fun i => i ≤ i0) (fun i => i0 - i) .ret post (fun h => by cases h) 0 (Nat.zero_le _) (fun gl i hi => ?_)
  by_cases hlt : i < i0
  · obtain ⟨recs, h1, h2⟩ := go i hlt
    exact .go (i + 1) (by omega) (by omega) 8 recs h1.all (fun γ => h2 gl γ)
  · have e : i = i0 := by omega
    subst e
    obtain ⟨recs, h1, h2⟩ := out
    exact .stop 8 recs h1.all (fun γ => h2 gl γ)

noncomputable def scL : Code := (loopsOf (Fx Try.f51)).getD 0 .skip
def scS (e : Ent) (kv : Value) (n : Nat) (gl : List Nat) (i : Nat) : St := ⟨frOf 18 [(3, PT (gl.getD 1 0)), (7, kv), (8, I (n : Nat)), (9, I (i : Nat))], tgOf 18 [(3, .at_ 1), (7, .at_ 0)], [e, FE (gl.getD 1 0) Q CQ true]⟩
def scE (e : Ent) (b : Bool) : St := ⟨frOf 18 [(2, .bool b)], tgOf 18 [], [e]⟩
def scO (e : Ent) : St := ⟨frOf 18 [], tgOf 18 [], [e]⟩
def scHd (e : Ent) (off cap n i k : Nat) (b : Bool) : List Rec := [rn 10 (lsX i n) (.bool true), ixF 11 39 e.g off n cap i (off + i * 4), ldF 12 0 e 24 (off + i * 4) (NV k), pc 46 [FV Q CQ, NV k] (.bool b)]
theorem sc_go (e : Ent) (off cap n i k : Nat) (gl : List Nat) (γ : Nat → Nat) : Goes scL (scS e (SL e.g off n cap) n gl i) (scHd e off cap n i k true ++ [rn 17 (adX i) (I (i + 1 : Nat))]) γ .normal (scS e (SL e.g off n cap) n gl (i + 1)) := by
  show _ = _; kernel_rfl
theorem sc_bad (e : Ent) (off cap n i k : Nat) (gl : List Nat) (γ : Nat → Nat) : Goes scL (scS e (SL e.g off n cap) n gl i) (scHd e off cap n i k false) γ .ret (scE e false) := by
  show _ = _; kernel_rfl
theorem sc_out (e : Ent) (kv : Value) (n i : Nat) (gl : List Nat) (γ : Nat → Nat) : Goes scL (scS e kv n gl i) [rn 10 (lsX i n) (.bool false)] γ (.exit 0) (scO e) := by
  show _ = _; kernel_rfl

section
variable {kg off cap : Nat} {kc : List Value} {kt : TypeId} {l : List Nat}
theorem scHd_ok (H : NsH kc off l) {w0 : World} {i k : Nat} (hq : l[i]? = some k) {b : Bool} (hb : decide (k < Q) = b) : RecsOk w0 (scHd (xE kg kc kt) off cap l.length i k b) :=
  ⟨rn_ok (lsX_true (lt_of_get hq)), ixF_ok sl39 sz24 (lt_of_get hq) rfl, ldN_ok (H.at_ i k hq), pc_ok (fQ k (H.lt k (List.mem_of_getElem? hq)) hb), trivial⟩
theorem sc_next (H : NsH kc off l) {w0 : World} {i k : Nat} (hq : l[i]? = some k) (hk : k < Q) : ∃ recs, RecsOk w0 recs ∧ ∀ gl γ, Goes scL (scS (xE kg kc kt) (SL kg off l.length cap) l.length gl i) recs γ .normal (scS (xE kg kc kt) (SL kg off l.length cap) l.length gl (i + 1)) := by
  have := lt_of_get hq
  have := H.n
  exact ⟨_, (scHd_ok H hq (b := true) (decide_eq_true hk)).append (m := [rn 17 (adX i) (I (i + 1 : Nat))]) ⟨rn_ok (adX_eq (by omega)), trivial⟩, fun gl γ => sc_go (xE kg kc kt) off cap l.length i k gl γ⟩
/-- wardmoteref06.Scalars -/
theorem f51_ok (H : NsH kc off l) : PureAt [xE kg kc kt] 51 [SL kg off l.length cap] (.bool (scal l)) := by
  rcases all_or (fun k => decide (k < Q)) l with hg | ⟨i, k, h1, h2, h3⟩
  · have hg' : ∀ k ∈ l, k < Q := fun k hk => by simpa using hg k hk
    rw [scal_of hg']
    have hr : ∀ w0 : World, (Rec.code scL (fun gl => scS (xE kg kc kt) (SL kg off l.length cap) l.length gl 0) (fun _ => scO (xE kg kc kt)) (.exit 0)).Ok Try.prog w0 := fun w0 =>
      scan_end (fun gl i => scS (xE kg kc kt) (SL kg off l.length cap) l.length gl i) _ 0 l.length (fun i hi => by
        obtain ⟨k, hq⟩ : ∃ k, l[i]? = some k := ⟨_, List.getElem?_eq_getElem hi⟩
        exact sc_next H hq (hg' k (List.mem_of_getElem? hq))) ⟨[rn 10 (lsX l.length l.length) (.bool false)], ⟨rn_ok (lsX_false (Nat.le_refl _)), trivial⟩, fun gl γ => sc_out _ _ l.length l.length gl γ⟩
    exact pureAt_of Try.func51 rfl 8 [(SL kg off l.length cap, .at_ 0)] [xE kg kc kt] [pc 45 [] (FV Q CQ), _] _ rfl (fun w => ⟨pc_ok f45_ok, hr w, trivial⟩) (fun γ => by kernel_rfl)
  · have hk : Q ≤ k := by simpa using h2
    rw [scal_no h1 hk]
    have hr : ∀ w0 : World, (Rec.code scL (fun gl => scS (xE kg kc kt) (SL kg off l.length cap) l.length gl 0) (fun _ => scE (xE kg kc kt) false) .ret).Ok Try.prog w0 := fun w0 =>
      scan_bad (fun gl i => scS (xE kg kc kt) (SL kg off l.length cap) l.length gl i) _ i (fun j hj => by
        have := lt_of_get h1
        obtain ⟨k, hq⟩ : ∃ k, l[j]? = some k := ⟨_, List.getElem?_eq_getElem (by omega)⟩
        exact sc_next H hq (by simpa using h3 j k hj hq)) ⟨_, scHd_ok H h1 (b := false) (decide_eq_false (by omega)), fun gl γ => sc_bad (xE kg kc kt) off cap l.length i k gl γ⟩
    exact pureAt_of Try.func51 rfl 8 [(SL kg off l.length cap, .at_ 0)] [xE kg kc kt] [pc 45 [] (FV Q CQ), _] _ rfl (fun w => ⟨pc_ok f45_ok, hr w, trivial⟩) (fun γ => by kernel_rfl)
end

def W9.ok (p : W9) : Bool := isPt p.x p.y p.inf
def pts (l : List W9) : Bool := l.all W9.ok
theorem pts_true {l : List W9} (h : pts l = true) : ∀ p ∈ l, isPt p.x p.y p.inf = true := by simpa [pts, W9.ok] using h
theorem pts_of {l : List W9} (h : ∀ p ∈ l, isPt p.x p.y p.inf = true) : pts l = true := by simpa [pts, W9.ok] using h
theorem pts_no {l : List W9} {i : Nat} {p : W9} (h : l[i]? = some p) (hk : p.ok = false) : pts l = false := by
  cases hs : pts l with
  | false => rfl
  | true => have := pts_true hs p (List.mem_of_getElem? h); unfold W9.ok at hk; rw [this] at hk; cases hk

noncomputable def arL : Code := (loopsOf (Fx Try.f93)).getD 0 .skip
def arS (e : Ent) (pv : Value) (n : Nat) (i : Nat) : St := ⟨frOf 15 [(5, pv), (6, I (n : Nat)), (7, I (i : Nat))], tgOf 15 [(5, .at_ 0)], [e]⟩
def arE (e : Ent) (b : Bool) : St := ⟨frOf 15 [(2, .bool b)], tgOf 15 [], [e]⟩
def arO (e : Ent) : St := ⟨frOf 15 [], tgOf 15 [], [e]⟩
def arHd (e : Ent) (off cap n i : Nat) (p : W9) (b : Bool) : List Rec := [rn 8 (lsX i n) (.bool true), ixF 9 40 e.g off n cap i (off + i * 9), ldF 10 0 e 26 (off + i * 9) (PV p.x p.y p.inf), pc 20 [PV p.x p.y p.inf] (.bool b)]
theorem ar_go (e : Ent) (off cap n i : Nat) (p : W9) (γ : Nat → Nat) : Goes arL (arS e (SL e.g off n cap) n i) (arHd e off cap n i p true ++ [rn 14 (adX i) (I (i + 1 : Nat))]) γ .normal (arS e (SL e.g off n cap) n (i + 1)) := by
  show _ = _; kernel_rfl
theorem ar_bad (e : Ent) (off cap n i : Nat) (p : W9) (γ : Nat → Nat) : Goes arL (arS e (SL e.g off n cap) n i) (arHd e off cap n i p false) γ .ret (arE e false) := by
  show _ = _; kernel_rfl
theorem ar_out (e : Ent) (kv : Value) (n i : Nat) (γ : Nat → Nat) : Goes arL (arS e kv n i) [rn 8 (lsX i n) (.bool false)] γ (.exit 0) (arO e) := by
  show _ = _; kernel_rfl

section
variable {pg off cap : Nat} {pc' : List Value} {pt' : TypeId} {l : List W9}
theorem arHd_ok (H : PsH pc' off l) {w0 : World} {i : Nat} {p : W9} (hq : l[i]? = some p) {b : Bool} (hb : p.ok = b) : RecsOk w0 (arHd (xE pg pc' pt') off cap l.length i p b) :=
  ⟨rn_ok (lsX_true (lt_of_get hq)), ixF_ok sl40 sz26 (lt_of_get hq) rfl, ldP_ok (H.at_ i p hq), pc_ok (f20_is (H.lt p (List.mem_of_getElem? hq)).1 (H.lt p (List.mem_of_getElem? hq)).2 hb), trivial⟩
theorem ar_next (H : PsH pc' off l) {w0 : World} {i : Nat} {p : W9} (hq : l[i]? = some p) (hk : p.ok = true) : ∃ recs, RecsOk w0 recs ∧ ∀ (_ : List Nat) γ, Goes arL (arS (xE pg pc' pt') (SL pg off l.length cap) l.length i) recs γ .normal (arS (xE pg pc' pt') (SL pg off l.length cap) l.length (i + 1)) := by
  have := lt_of_get hq
  have := H.n
  exact ⟨_, (arHd_ok H hq hk).append (m := [rn 14 (adX i) (I (i + 1 : Nat))]) ⟨rn_ok (adX_eq (by omega)), trivial⟩, fun _ γ => ar_go (xE pg pc' pt') off cap l.length i p γ⟩
/-- wardmoteref07.Are -/
theorem f93_ok (H : PsH pc' off l) : PureAt [xE pg pc' pt'] 93 [SL pg off l.length cap] (.bool (pts l)) := by
  rcases all_or W9.ok l with hg | ⟨i, k, h1, h2, h3⟩
  · rw [pts_of hg]
    have hr : ∀ w0 : World, (Rec.code arL (fun _ => arS (xE pg pc' pt') (SL pg off l.length cap) l.length 0) (fun _ => arO (xE pg pc' pt')) (.exit 0)).Ok Try.prog w0 := fun w0 =>
      scan_end (fun _ i => arS (xE pg pc' pt') (SL pg off l.length cap) l.length i) _ 0 l.length (fun i hi => by
        obtain ⟨k, hq⟩ : ∃ k, l[i]? = some k := ⟨_, List.getElem?_eq_getElem hi⟩
        exact ar_next H hq (hg k (List.mem_of_getElem? hq))) ⟨[rn 8 (lsX l.length l.length) (.bool false)], ⟨rn_ok (lsX_false (Nat.le_refl _)), trivial⟩, fun _ γ => ar_out _ _ l.length l.length γ⟩
    exact pureAt_of Try.func93 rfl 8 [(SL pg off l.length cap, .at_ 0)] [xE pg pc' pt'] [_] _ rfl (fun w => ⟨hr w, trivial⟩) (fun γ => by kernel_rfl)
  · rw [pts_no h1 h2]
    have hr : ∀ w0 : World, (Rec.code arL (fun _ => arS (xE pg pc' pt') (SL pg off l.length cap) l.length 0) (fun _ => arE (xE pg pc' pt') false) .ret).Ok Try.prog w0 := fun w0 =>
      scan_bad (fun _ i => arS (xE pg pc' pt') (SL pg off l.length cap) l.length i) _ i (fun j hj => by
        have := lt_of_get h1
        obtain ⟨k, hq⟩ : ∃ k, l[j]? = some k := ⟨_, List.getElem?_eq_getElem (by omega)⟩
        exact ar_next H hq (h3 j k hj hq)) ⟨_, arHd_ok H h1 h2, fun _ γ => ar_bad (xE pg pc' pt') off cap l.length i k γ⟩
    exact pureAt_of Try.func93 rfl 8 [(SL pg off l.length cap, .at_ 0)] [xE pg pc' pt'] [_] _ rfl (fun w => ⟨hr w, trivial⟩) (fun γ => by kernel_rfl)
end

end Go.Proofs.Ytildcmggcbdhpaa
