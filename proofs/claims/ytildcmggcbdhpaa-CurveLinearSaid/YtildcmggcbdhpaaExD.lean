/- The symbolic run of a function's code tells the truth: from one equation to a contract. No conditions. -/
import Derived.Test.YtildcmggcbdhpaaExC
import Derived.LoopN
namespace Go.Ex
open Go.RowKit

section
variable {P : Program} {γ : Nat → Nat} {ops : Array Oper} {w0 : World} {N : Nat} {recs0 : List Rec}

theorem way_ext {o : Oper} {i : Nat} {g g' : G} (h : Way P γ ops.toList o i g g') : (∃ l, g'.E = l ++ g.E) ∧ (∃ l, g.recs = l ++ g'.recs) := by
  cases h with
  | off ds rs hw hr h => subst h; exact ⟨⟨[], rfl⟩, ⟨[], rfl⟩⟩
  | on ds rs hw hr nx v tag m ha hn rh wh h1 h2 h => subst h; exact ⟨(arun_ext _ _ _ _ ha).E, ⟨[], rfl⟩⟩
  | call ds rs hw hr f f' args m args' need k val news tag recs ha hwr hrd hrec h =>
    subst h
    obtain ⟨l, hl⟩ := (arun_ext _ _ _ _ ha).E
    exact ⟨⟨(It.nat f, It.nat f') :: (It.vals args.toList, It.vals (args' (addr g.st.hp))) :: (eqs (need (addr g.st.hp)) g.st.hp ++ l), by simp [finish, hl]⟩, ⟨[_], hrec⟩⟩
  | eff ds rs hw hr d deep need s k val upd news tag recs hrec δ hδ ls hls σ hσ hu h => subst h; exact ⟨⟨(It.sem (execOp (ev g.st.fr) o), It.sem (s σ)) :: (ls.map (fun p => (It.nat p.2.2.g, It.nat (opA (slot g.st.fr) (tmpsOf o) 0 p.1))) ++ eqs (need σ) g.st.hp), by simp [finish]⟩, ⟨[_], hrec⟩⟩
  | fact ds rs hw hr d need s v recs hrec h => subst h; exact ⟨⟨(It.sem (execOp (ev g.st.fr) o), It.sem (s (addr g.st.hp))) :: eqs (need (addr g.st.hp)) g.st.hp, by simp [finish]⟩, ⟨[_], hrec⟩⟩

theorem stepsR_ext : ∀ (rest : List Oper) (i : Nat) (g g' : G), stepsR P γ ops.toList rest i g = some g' → (∃ l, g'.E = l ++ g.E) ∧ (∃ l, g.recs = l ++ g'.recs)
  | [], _, g, g', h => by simp only [stepsR, Option.some.injEq] at h; subst h; exact ⟨⟨[], rfl⟩, ⟨[], rfl⟩⟩
  | o :: rest, i, g, g', h => by
    simp only [stepsR] at h
    split at h
    · cases h
    · rename_i g1 h1
      obtain ⟨⟨l1, e1⟩, ⟨k1, f1⟩⟩ := way_ext (step1_way h1).2.2
      obtain ⟨⟨l2, e2⟩, ⟨k2, f2⟩⟩ := stepsR_ext rest (i + 1) g1 g' h
      exact ⟨⟨l2 ++ l1, by rw [e2, e1, List.append_assoc]⟩, ⟨k1 ++ k2, by rw [f1, f2, List.append_assoc]⟩⟩

theorem stepsR_lex : ∀ (rest : List Oper) (i : Nat) (g g' : G), (∀ j, j < rest.length → ops[i + j]? = rest[j]?) → stepsR P γ ops.toList rest i g = some g' → EqOk g'.E → (∀ r ∈ g.recs, r.Ok P w0) → (∃ l, recs0 = l ++ g.recs) → g.st.fr.length = N →
    ∃ l : List Actn, g'.acts = l.reverse ++ g.acts ∧ Run (toX g.st) l (toX g'.st) ∧ l.map (·.i) = List.range' i rest.length ∧ (∀ A ∈ l, Org P ops w0 N recs0 γ A) ∧ g.n ≤ g'.n ∧ (∀ A ∈ l, g.n ≤ A.al.1 ∧ A.al.1 + A.al.2 ≤ g'.n) ∧
      l.Pairwise (fun A B => A.al.1 + A.al.2 ≤ B.al.1) ∧ g'.st.fr.length = N
  | [], i, g, g', _, h, _, _, _, hN => by
    simp only [stepsR, Option.some.injEq] at h
    subst h
    exact ⟨[], rfl, rfl, rfl, fun A hA => (by cases hA), Nat.le_refl _, fun A hA => (by cases hA), List.Pairwise.nil, hN⟩
  | o :: rest, i, g, g', hops, h, hE, hrec, hsuf, hN => by
    simp only [stepsR] at h
    split at h
    · cases h
    · rename_i g1 h1
      obtain ⟨hsel, hdst, hway⟩ := step1_way h1
      obtain ⟨⟨l1, e1⟩, _⟩ := stepsR_ext rest (i + 1) g1 g' h
      have hE1 : EqOk g1.E := EqOk.app (l := l1) (by rw [← e1]; exact hE)
      obtain ⟨A, hL⟩ := way_lex hdst hE1 hway
      obtain ⟨lr, hlr⟩ := hL.recs
      obtain ⟨lp, hlp⟩ := hsuf
      obtain ⟨l, k1, k2, k3, k4, k5, k6, k7, k8⟩ := stepsR_lex rest (i + 1) g1 g' (fun j hj => by
        have := hops (j + 1) (by simp only [List.length_cons]; omega)
        rw [show i + 1 + j = i + (j + 1) by omega, this, List.getElem?_cons_succ]) h hE (fun r hr => hrec r (by rw [hlr]; exact List.mem_append_right _ hr)) ⟨lp ++ lr, by rw [hlp, hlr, List.append_assoc]⟩ (by rw [hL.len]; exact hN)
      have hi0 : ops[i]? = some o := by
        have := hops 0 (by simp)
        simpa using this
      refine ⟨A :: l, ?_, ⟨hL.pre, by rw [hL.app]; exact k2⟩, ?_, ?_, Nat.le_trans hL.n k5, ?_, ?_, k8⟩
      · rw [k1, hL.acts]; simp
      · simp only [List.map_cons, List.length_cons, List.range'_succ, k3, hL.i]
      · intro B hB
        rcases List.mem_cons.1 hB with rfl | hB
        · exact ⟨o, g, g1, by rw [hL.i]; exact hi0, hsel, hN ▸ hdst, hE1, hrec, ⟨lp, hlp⟩, by rw [hL.i]; exact hway, hL.acts⟩
        · exact k4 B hB
      · intro B hB
        rcases List.mem_cons.1 hB with rfl | hB
        · rw [hL.al]; exact ⟨Nat.le_refl _, by dsimp only; have := hL.n; omega⟩
        · have := k6 B hB
          have := hL.n
          omega
      · rw [List.pairwise_cons]
        refine ⟨fun B hB => ?_, k7⟩
        have := (k6 B hB).1
        rw [hL.al]
        dsimp only
        have := hL.n
        omega

theorem freeB_pw : ∀ (l : List Actn), freeB ops.toList l = true → l.Pairwise (fun r b => apart b r = true ∨ ∃ o, ops[r.i]? = some o ∧ ∃ e ∈ o.after, Region.binds .any e = true ∧ e.on = b.i)
  | [], _ => List.Pairwise.nil
  | r :: l, h => by
    simp only [freeB, Bool.and_eq_true] at h
    rw [List.pairwise_cons]
    refine ⟨fun b hb => ?_, freeB_pw l h.2⟩
    have h1 := h.1
    rw [List.all_eq_true] at h1
    have h2 := h1 b hb
    simp only [Bool.or_eq_true] at h2
    rcases h2 with h2 | h2
    · exact .inl h2
    · right
      rw [Array.getElem?_toList] at h2
      split at h2
      · rename_i o ho
        rw [List.any_eq_true] at h2
        obtain ⟨e, he, hb⟩ := h2
        simp only [Bool.and_eq_true, beq_iff_eq] at hb
        exact ⟨o, ho, e, by simpa using he, hb.1, hb.2⟩
      · cases h2

theorem edgesOk_spec (h : edgesOk ops.toList = true) : ∀ (i : Nat) (o : Oper), ops[i]? = some o → ∀ e ∈ o.after, Region.binds .any e = true → e.on < i := by
  intro i o ho e he hb
  unfold edgesOk at h
  rw [List.all_eq_true] at h
  have hm : (o, i) ∈ ops.toList.zipIdx := by
    rw [List.mem_zipIdx_iff_getElem?]
    rw [Array.getElem?_toList]
    exact ho
  have h1 := h _ hm
  dsimp only at h1
  rw [List.all_eq_true] at h1
  have := h1 e (by simpa using he)
  simpa [hb] using this

instance : Inhabited G := ⟨⟨⟨[], [], []⟩, 0, [], [], []⟩⟩

/-- A region. -/
theorem region_wp {id : Nat} {draw : Bool} {st : St} {E : List (It × It)} {n : Nat} {ks0 : List (Nat × Nat × Nat × Nat)} {a : Act} {w : World} {Q : Exit → Act → World → Prop} (hmix : P.follows .mixedOrders = true)
    (hm : Mod w0 N (toX st) a w) (hN : st.fr.length = N) (hrec : ∀ r ∈ recs0, r.Ok P w0)
    (hlex : ∀ γ : Nat → Nat, (∀ i, n ≤ i → γ i = 0) → ∃ g, stepsR P γ ops.toList ops.toList 0 ⟨st, 0, recs0, E, []⟩ = some g ∧ EqOk g.E ∧ g.acts.map keyOf = ks0 ∧ (draw = true → freeB ops.toList g.acts = true ∧ edgesOk ops.toList = true))
    (hends : ∀ k ∈ ks0, k.2.1 + k.2.2.1 ≤ n)
    (hQ : ∀ γ g a' w', (∀ i, n ≤ i → γ i = 0) → stepsR P γ ops.toList ops.toList 0 ⟨st, 0, recs0, E, []⟩ = some g → g.st.fr.length = N → Mod w0 N (toX g.st) a' w' → Q .normal a' w') : (Code.region id ops draw).wp P Q a w := by
  let F : (Nat → Nat) → G := fun γ => (stepsR P γ ops.toList ops.toList 0 ⟨st, 0, recs0, E, []⟩).getD default
  have hF : ∀ γ : Nat → Nat, (∀ i, n ≤ i → γ i = 0) → stepsR P γ ops.toList ops.toList 0 ⟨st, 0, recs0, E, []⟩ = some (F γ) ∧ EqOk (F γ).E ∧ (F γ).acts.map keyOf = ks0 ∧ (draw = true → freeB ops.toList (F γ).acts = true ∧ edgesOk ops.toList = true) := fun γ hγ => by
    obtain ⟨g, h1, h2⟩ := hlex γ hγ
    have : F γ = g := by show (stepsR P γ ops.toList ops.toList 0 ⟨st, 0, recs0, E, []⟩).getD default = g; rw [h1]; rfl
    rw [this]
    exact ⟨h1, h2⟩
  have hX : ∀ γ : Nat → Nat, (∀ i, n ≤ i → γ i = 0) → Run (toX st) (F γ).acts.reverse (toX (F γ).st) ∧ (F γ).acts.reverse.map (·.i) = List.range' 0 ops.size ∧ (∀ A ∈ (F γ).acts.reverse, Org P ops w0 N recs0 γ A) ∧
      (F γ).acts.reverse.Pairwise (fun A B => A.al.1 + A.al.2 ≤ B.al.1) ∧ (F γ).st.fr.length = N := fun γ hγ => by
    obtain ⟨h1, h2, h3, _⟩ := hF γ hγ
    obtain ⟨l, k1, k2, k3, k4, _, _, k7, k8⟩ := stepsR_lex (w0 := w0) (N := N) (recs0 := recs0) ops.toList 0 _ _ (fun j _ => by rw [Nat.zero_add, Array.getElem?_toList]) h1 h2 hrec ⟨[], rfl⟩ hN
    have e : (F γ).acts.reverse = l := by rw [k1]; simp
    rw [e]
    exact ⟨k2, by rw [k3]; simp, k4, k7, k8⟩
  have hz : ∀ i, n ≤ i → (fun _ : Nat => 0) i = 0 := fun _ _ => rfl
  have hks : ∀ γ : Nat → Nat, (∀ i, n ≤ i → γ i = 0) → (F γ).acts.reverse.map keyOf = ks0.reverse := fun γ hγ => by
    rw [List.map_reverse, (hF γ hγ).2.2.1]
  have hki : ks0.reverse.map (·.1) = List.range' 0 ops.size := by
    rw [← hks _ hz, List.map_map]
    exact (hX _ hz).2.1
  have hdisj : ks0.reverse.Pairwise (fun k k' => ∀ j, within k j → ¬ within k' j) := by
    rw [← hks _ hz, List.pairwise_map]
    refine (hX _ hz).2.2.2.1.imp (fun {A B} hAB j h1 h2 => ?_)
    unfold within keyOf at h1 h2
    dsimp only at h1 h2
    omega
  have hfree : ∀ k ∈ ks0.reverse, ∀ j, within k j → ¬ False ∧ j < n := fun k hk j hj => by
    have := hends k (by simpa using hk)
    unfold within at hj
    exact ⟨fun h => h, by omega⟩
  have hfin : ∀ γ a w, (∀ i, n ≤ i → γ i = 0) → Mod w0 N (toX (F γ).st) a w → Q .normal a w := fun γ a' w' hγ hm' => hQ γ (F γ) a' w' hγ (hF γ hγ).1 (hX γ hγ).2.2.2.2 hm'
  have hstg : ∀ (T : Actn → Actn → Prop) (w1 : World), Mod w0 N (toX st) a w1 → (∀ γ : Nat → Nat, (∀ i, n ≤ i → γ i = 0) → (F γ).acts.reverse.Pairwise T) →
      Stg P ops w0 N recs0 n (fun _ => False) (fun _ => 0) a w1 (fun _ => toX st) (fun γ => (F γ).acts.reverse) (fun γ => toX (F γ).st) ks0.reverse T := fun T w1 hm1 hT =>
    ⟨⟨hz, fun _ h => h.elim⟩, fun _ _ => hm1, fun γ hγ => (hX γ hγ.1).1, fun γ hγ => (hX γ hγ.1).2.2.1, fun γ hγ => hks γ hγ.1, fun γ hγ => hT γ hγ.1, hfree, hdisj⟩
  cases draw with
  | false =>
    refine wp_region ?_
    have h1 := stg_ops (Q := Q) (T := fun _ _ => True) hfin ks0.reverse (fun _ => False) (fun _ => 0) a w _ _ (hstg _ w hm (fun γ _ => List.pairwise_of_forall (fun _ _ => trivial)))
    rw [hki] at h1
    rw [List.range_eq_range']
    exact h1
  | true =>
    refine wp_region_any hmix ?_
    have hm1 : Mod w0 N (toX st) a { w with drawn := w.drawn + 1 } :=
      ⟨hm.defers, hm.size, hm.slot, ⟨hm.below.os, hm.below.tape, hm.below.output, hm.below.size, hm.below.block⟩, hm.hold, hm.own, hm.diff⟩
    refine stg_any (n := n) (N := N) (w0 := w0) (recs0 := recs0) (edgesOk_spec ((hF _ hz).2.2.2 rfl).2) hfin ops.size ks0.reverse (fun _ => False) (fun _ => 0) a _ (fun _ => toX st) (fun γ => (F γ).acts.reverse) _ ?_ (by simp) (fun j hj => ?_) (fun j hj => ?_) ?_ (hstg _ _ hm1 (fun γ hγ => ?_))
    · have := congrArg List.length hki
      simpa using this
    · rw [hki]
      simp [Array.getD_eq_getD_getElem?, hj]
    · rw [hki] at hj
      simp at hj
      omega
    · rw [hki]
      exact List.pairwise_lt_range'
    · have h1 := freeB_pw _ ((hF γ hγ).2.2.2 rfl).1
      have h2 := (hX γ hγ).2.1
      have h3 : ((F γ).acts.reverse.map (·.i)).Pairwise (· < ·) := by rw [h2]; exact List.pairwise_lt_range'
      rw [List.pairwise_map] at h3
      rw [← List.pairwise_reverse] at h1
      exact h3.imp₂ (fun _ _ x y => ⟨x, y⟩) h1
end

section
variable {P : Program} {w0 : World} {N : Nat}

theorem region_ext {ops : Array Oper} {draw : Bool} {s s' : S} (h : region P ops.toList draw s = some s') : (∃ l, s'.E = l ++ s.E) ∧ (∃ l, s.recs = l ++ s'.recs) := by
  unfold region at h
  split at h
  · cases h
  · split at h
    · cases h
    · dsimp only at h
      split at h
      · cases h
      · rename_i g hg
        split at h
        · cases h
          exact stepsR_ext _ _ _ _ hg
        · cases h

theorem iter_ext {f : S → Option (Out × S)} (hf : ∀ s o s', f s = some (o, s') → (∃ l, s'.E = l ++ s.E) ∧ (∃ l, s.recs = l ++ s'.recs)) : ∀ (n : Nat) (s : S) (o : Out) (s' : S), iter f n s = some (o, s') → (∃ l, s'.E = l ++ s.E) ∧ (∃ l, s.recs = l ++ s'.recs)
  | 0, _, _, _, h => by cases h
  | n + 1, s, o, s', h => by
    simp only [iter] at h
    split at h
    · rename_i s1 h1
      obtain ⟨⟨l1, e1⟩, ⟨k1, f1⟩⟩ := hf _ _ _ h1
      obtain ⟨⟨l2, e2⟩, ⟨k2, f2⟩⟩ := iter_ext hf n _ _ _ h
      exact ⟨⟨l2 ++ l1, by rw [e2, e1, List.append_assoc]⟩, ⟨k1 ++ k2, by rw [f1, f2, List.append_assoc]⟩⟩
    · exact hf _ _ _ h

theorem exec_ext : ∀ (c : Code) (s : S) (o : Out) (s' : S), exec P c s = some (o, s') → (∃ l, s'.E = l ++ s.E) ∧ (∃ l, s.recs = l ++ s'.recs) := by
  intro c
  induction c with
  | skip => intro s o s' h; simp only [exec, Option.some.injEq, Prod.mk.injEq] at h; rw [← h.2]; exact ⟨⟨[], rfl⟩, ⟨[], rfl⟩⟩
  | region id ops draw =>
    intro s o s' h
    simp only [exec] at h
    split at h
    · rename_i s1 h1
      simp only [Option.some.injEq, Prod.mk.injEq] at h
      rw [← h.2]
      exact region_ext h1
    · cases h
  | seq x y ihx ihy =>
    intro s o s' h
    simp only [exec] at h
    split at h
    · rename_i s1 h1
      obtain ⟨⟨l1, e1⟩, ⟨k1, f1⟩⟩ := ihx _ _ _ h1
      obtain ⟨⟨l2, e2⟩, ⟨k2, f2⟩⟩ := ihy _ _ _ h
      exact ⟨⟨l2 ++ l1, by rw [e2, e1, List.append_assoc]⟩, ⟨k1 ++ k2, by rw [f1, f2, List.append_assoc]⟩⟩
    · exact ihx _ _ _ h
  | cond c x y ihx ihy =>
    intro s o s' h
    simp only [exec] at h
    split at h
    · exact ihx _ _ _ h
    · exact ihy _ _ _ h
    · cases h
  | block id c ih =>
    intro s o s' h
    simp only [exec] at h
    split at h
    · rename_i i s1 h1
      split at h
      · simp only [Option.some.injEq, Prod.mk.injEq] at h; rw [← h.2]; exact ih _ _ _ h1
      · simp only [Option.some.injEq, Prod.mk.injEq] at h; rw [← h.2]; exact ih _ _ _ h1
    · exact ih _ _ _ h
  | loop c ih =>
    intro s o s' h
    simp only [exec] at h
    split at h
    · rename_i c' k pre post out recs hr
      split at h
      · cases h
      · simp only [Option.some.injEq, Prod.mk.injEq] at h
        rw [← h.2]
        exact ⟨⟨(It.code c, It.code c') :: (It.nat (post (s.st.hp.map (·.g)) (fun q => (s.gs.take k).getD q 0)).fr.length, It.nat s.st.fr.length) :: chk (pre (s.st.hp.map (·.g))) s.st, by simp⟩, ⟨[_], hr⟩⟩
    · exact iter_ext ih _ _ _ _ h
  | exit id => intro s o s' h; simp only [exec, Option.some.injEq, Prod.mk.injEq] at h; rw [← h.2]; exact ⟨⟨[], rfl⟩, ⟨[], rfl⟩⟩
  | ret => intro s o s' h; simp only [exec, Option.some.injEq, Prod.mk.injEq] at h; rw [← h.2]; exact ⟨⟨[], rfl⟩, ⟨[], rfl⟩⟩
  | _ => intros; rename_i h; simp [exec] at h

/-- What a run of a piece of code must be, whatever the numbers. -/
def Good (f : S → Option (Out × S)) (st : St) (recs : List Rec) (E : List (It × It)) (K : Nat) : Prop :=
  ∀ gs : List Nat, gs.length = K → ∃ o s', f ⟨st, gs, recs, E⟩ = some (o, s') ∧ EqOk s'.E

/-- What a run comes to, once its own numbers are given. -/
def Ends (f : S → Option (Out × S)) (st : St) (recs : List Rec) (E : List (It × It)) (K : Nat) (δ : List Nat) (o : Out) (st' : St) (recs' : List Rec) (E' : List (It × It)) : Prop :=
  δ.length ≤ K ∧ ∀ gs : List Nat, δ.length + gs.length = K → f ⟨st, δ ++ gs, recs, E⟩ = some (o, ⟨st', gs, recs', E'⟩)

/-- The truth of a symbolic run. -/
def True_ (P : Program) (w0 : World) (N : Nat) (f : S → Option (Out × S)) (c : Act → World → (Exit → Act → World → Prop) → Prop) : Prop :=
  ∀ (st : St) (recs : List Rec) (E : List (It × It)) (K : Nat) (a : Act) (w : World) (Q : Exit → Act → World → Prop), Mod w0 N (toX st) a w → st.fr.length = N → (∀ r ∈ recs, r.Ok P w0) → Good f st recs E K →
    (∀ δ o st' recs' E' a' w', Ends f st recs E K δ o st' recs' E' → st'.fr.length = N → Mod w0 N (toX st') a' w' → Q o.exit_ a' w') → c a w Q

theorem good_some {f : S → Option (Out × S)} {st : St} {recs : List Rec} {E : List (It × It)} {K : Nat} (h : Good f st recs E K) : ∃ gs o s', gs.length = K ∧ f ⟨st, gs, recs, E⟩ = some (o, s') ∧ EqOk s'.E := by
  obtain ⟨o, s', h1, h2⟩ := h (List.replicate K 0) (by simp)
  exact ⟨_, o, s', by simp, h1, h2⟩

theorem chkSlots_spec (fr : List (Option Value)) : ∀ (l : List (Option Value)) (t : Nat) (E : List (It × It)), EqOk (chkSlots fr t l ++ E) → ∀ i v, l[i]? = some (some v) → slot fr (t + i) = some v
  | [], _, _, _, i, v, h => by simp at h
  | none :: l, t, E, hE, i, v, h => by
    cases i with
    | zero => simp at h
    | succ i =>
      have := chkSlots_spec fr l (t + 1) E hE i v (by simpa using h)
      rw [show t + (i + 1) = t + 1 + i by omega]
      exact this
  | some u :: l, t, E, hE, i, v, h => by
    have hE' : EqOk ((It.oval (slot fr t), It.oval (some u)) :: (chkSlots fr (t + 1) l ++ E)) := hE
    cases i with
    | zero =>
      simp only [List.getElem?_cons_zero, Option.some.injEq] at h
      subst h
      have := hE'.cons.1
      injection this
    | succ i =>
      have := chkSlots_spec fr l (t + 1) E hE'.cons.2 i v (by simpa using h)
      rw [show t + (i + 1) = t + 1 + i by omega]
      exact this

theorem number_mem : ∀ (l : List Ent) (n k : Nat) (e : Ent), l[k]? = some e → (n + k, e) ∈ number n l
  | [], _, _, _, h => by simp at h
  | f :: l, n, k, e, h => by
    cases k with
    | zero => simp only [List.getElem?_cons_zero, Option.some.injEq] at h; subst h; simp [number]
    | succ k =>
      have := number_mem l (n + 1) k e (by simpa using h)
      simp only [number, List.mem_cons]
      right
      rw [show n + (k + 1) = n + 1 + k by omega]
      exact this

/-- A state that says less. -/
theorem Mod.of_chk {want st : St} {a : Act} {w : World} (hm : Mod w0 N (toX st) a w) (h : EqOk (chk want st)) : want.fr.length = st.fr.length ∧ Mod w0 N (toX want) a w := by
  have h1 := h.cons
  have hs := chkSlots_spec st.fr want.fr 0 _ h1.2
  have he := eqs_ok (number 0 want.hp) st.hp [] (by rw [List.append_nil]; exact h1.2.app)
  have hget : ∀ (k : Nat) (e : Ent), want.hp[k]? = some e → st.hp[k]? = some e := fun k e hk => by
    have := he (0 + k, e) (number_mem want.hp 0 k e hk)
    simpa using this
  refine ⟨It.nat_inj h1.1, hm.defers, hm.size, fun t v hv => ?_, hm.below, fun k e hk => hm.hold k e (hget k e hk), fun k e hk => hm.own k e (hget k e hk), fun k k' e e' hne hk hk' => hm.diff k k' e e' hne (hget k e hk) (hget k' e' hk')⟩
  have hv' : (want.fr[t]?).bind id = some v := hv
  cases hh : want.fr[t]? with
  | none => rw [hh] at hv'; cases hv'
  | some o =>
    rw [hh] at hv'
    simp only [Option.bind_some, id] at hv'
    subst hv'
    have := hs t v hh
    rw [Nat.zero_add] at this
    exact hm.slot t v this

theorem ev_slot {st : St} {a : Act} {w : World} (hm : Mod w0 N (toX st) a w) (c : Operand) (t : Bool) (h : ev st.fr c = .bool t) : a.eval c = .bool t := by
  cases c with
  | tmp i =>
    simp only [ev] at h
    cases hs : slot st.fr i with
    | none => rw [hs] at h; simp [undef] at h
    | some v =>
      rw [hs] at h
      simp only [Option.getD_some] at h
      have := hm.slot i v hs
      show a.tmps.getD i undef = _
      simp [Array.getD_eq_getD_getElem?, this, h]
  | const v => exact h
  | global g => simp [ev] at h
  | func f => simp [ev] at h

theorem region_true (hmix : P.follows .mixedOrders = true) (id : Nat) (ops : Array Oper) (draw : Bool) : True_ P w0 N (exec P (.region id ops draw)) (fun a w Q => (Code.region id ops draw).wp P Q a w) := by
  intro st recs E K a w Q hm hN hrec hgood hQ
  -- the dry run
  obtain ⟨gs0, o0, s0, hl0, hx0, _⟩ := good_some hgood
  have hreg : ∀ gs o s', exec P (.region id ops draw) ⟨st, gs, recs, E⟩ = some (o, s') → o = .normal ∧ region P ops.toList draw ⟨st, gs, recs, E⟩ = some s' := fun gs o s' h => by
    simp only [exec] at h
    split at h
    · rename_i s1 h1
      simp only [Option.some.injEq, Prod.mk.injEq] at h
      exact ⟨h.1.symm, by rw [← h.2]; exact h1⟩
    · cases h
  obtain ⟨_, hx0⟩ := hreg _ _ _ hx0
  cases hd : stepsR P (fun _ => 0) ops.toList ops.toList 0 ⟨st, 0, recs, [], []⟩ with
  | none => unfold region at hx0; dsimp only at hx0; rw [hd] at hx0; cases hx0
  | some g0 =>
    have hn : g0.n ≤ K := by
      unfold region at hx0
      dsimp only at hx0
      rw [hd] at hx0
      dsimp only at hx0
      split at hx0
      · cases hx0
      · omega
    have hpure : ∀ (δ gs : List Nat), δ.length = g0.n → (fun i => ((δ ++ gs).take g0.n).getD i 0) = fun i => δ.getD i 0 := fun δ gs hδ => by
      rw [← hδ, List.take_left]
    have hmain : ∀ (δ gs : List Nat), δ.length = g0.n → δ.length + gs.length = K → ∃ g, stepsR P (fun i => δ.getD i 0) ops.toList ops.toList 0 ⟨st, 0, recs, E, []⟩ = some g ∧ EqOk g.E ∧ g.acts.map keyOf = g0.acts.map keyOf ∧
        (draw = true → freeB ops.toList g.acts = true ∧ edgesOk ops.toList = true) ∧ exec P (.region id ops draw) ⟨st, δ ++ gs, recs, E⟩ = some (.normal, ⟨g.st, gs, g.recs, g.E⟩) := fun δ gs hδ hK => by
      obtain ⟨o, s', h1, h2⟩ := hgood (δ ++ gs) (by rw [List.length_append]; exact hK)
      obtain ⟨ho, h3⟩ := hreg _ _ _ h1
      subst ho
      have h3' := h3
      unfold region at h3
      dsimp only at h3
      rw [hd] at h3
      dsimp only at h3
      split at h3
      · cases h3
      · rw [hpure δ gs hδ] at h3
        split at h3
        · cases h3
        · rename_i g hg
          split at h3
          · rename_i hb
            cases h3
            simp only [Bool.and_eq_true, Bool.or_eq_true, Bool.not_eq_true', beq_iff_eq] at hb
            refine ⟨g, hg, h2, hb.1, fun hdr => ?_, ?_⟩
            · rcases hb.2 with hb2 | hb2
              · rw [hdr] at hb2; cases hb2
              · exact hb2
            · rw [h1]
              rw [← hδ, List.drop_left]
          · cases h3
    have hfun : ∀ γ : Nat → Nat, (∀ i, g0.n ≤ i → γ i = 0) → (fun i => ((List.range g0.n).map γ).getD i 0) = γ := fun γ hγ => by
      funext i
      by_cases hi : i < g0.n
      · simp [List.getD_eq_getElem?_getD, hi]
      · rw [hγ i (by omega)]
        simp [List.getD_eq_getElem?_getD, hi]
    obtain ⟨gd, hd1, hd2, hd3, _⟩ := hmain (List.replicate g0.n 0) (List.replicate (K - g0.n) 0) (by simp) (by simp; omega)
    refine region_wp (n := g0.n) (ks0 := g0.acts.map keyOf) (E := E) (w0 := w0) (N := N) (recs0 := recs) hmix hm hN hrec (fun γ hγ => ?_) (fun k hk => ?_) (fun γ g a' w' hγ hg hlen hm' => ?_)
    · obtain ⟨g, h1, h2, h3, h4, _⟩ := hmain ((List.range g0.n).map γ) (List.replicate (K - g0.n) 0) (by simp) (by simp; omega)
      rw [hfun γ hγ] at h1
      exact ⟨g, h1, h2, h3, h4⟩
    · have hz : (fun i => (List.replicate g0.n 0).getD i 0) = fun _ => 0 := by
        funext i
        by_cases hi : i < g0.n <;> simp [List.getD_eq_getElem?_getD, hi]
      rw [hz] at hd1
      obtain ⟨l, k1, _, _, _, _, k6, _⟩ := stepsR_lex (w0 := w0) (N := N) (recs0 := recs) ops.toList 0 _ _ (fun j _ => by rw [Nat.zero_add, Array.getElem?_toList]) hd1 hd2 hrec ⟨[], rfl⟩ hN
      have hnn : gd.n = g0.n := by
        -- the last action's numbers end at n; the count is the sum of the keys
        have cnt : ∀ (E1 E2 : List (It × It)) (γ : Nat → Nat) (rest : List Oper) (i : Nat) (g1 g2 h1 h2 : G), stepsR P γ ops.toList rest i g1 = some h1 → stepsR P γ ops.toList rest i g2 = some h2 → g1.n = g2.n → g1.acts.map keyOf = g2.acts.map keyOf →
            h1.acts.map keyOf = h2.acts.map keyOf → h1.n = h2.n := by
          intro E1 E2 γ rest
          induction rest with
          | nil =>
            intro i g1 g2 h1 h2 e1 e2 hn' _ _
            simp only [stepsR, Option.some.injEq] at e1 e2
            rw [← e1, ← e2]; exact hn'
          | cons o rest ih =>
            intro i g1 g2 h1 h2 e1 e2 hn' hk1 hk2
            simp only [stepsR] at e1 e2
            split at e1
            · cases e1
            · rename_i g1' s1
              split at e2
              · cases e2
              · rename_i g2' s2
                have nn : ∀ (g g' : G), step1 P γ ops.toList o i g = some g' → ∃ A, g'.acts = A :: g.acts ∧ A.al = (g.n, g'.n - g.n) ∧ g.n ≤ g'.n := fun g g' hs => by
                  obtain ⟨_, _, hway⟩ := step1_way hs
                  cases hway with
                  | off ds rs hw hr h => subst h; exact ⟨_, rfl, rfl, Nat.le_refl _⟩
                  | on ds rs hw hr nx v tag m ha hn rh wh q1 q2 h => subst h; exact ⟨_, rfl, rfl, (arun_ext _ _ _ _ ha).n⟩
                  | call ds rs hw hr f f' args m args' need k val news tag recs ha hwr hrd hrec h => subst h; exact ⟨_, rfl, rfl, Nat.le_add_right _ _⟩
                  | eff ds rs hw hr d deep need s k val upd news tag recs hrec δ hδ ls hls σ hσ hu h => subst h; exact ⟨_, rfl, rfl, Nat.le_add_right _ _⟩
                  | fact ds rs hw hr d need s v recs hrec h => subst h; exact ⟨_, rfl, rfl, Nat.le_refl _⟩
                have acts_suffix : ∀ (rest : List Oper) (i : Nat) (g g' : G), stepsR P γ ops.toList rest i g = some g' → ∃ l, g'.acts = l ++ g.acts ∧ l.length = rest.length := by
                  intro rest
                  induction rest with
                  | nil => intro i g g' hs; simp only [stepsR, Option.some.injEq] at hs; exact ⟨[], by rw [hs]; rfl, rfl⟩
                  | cons o' rest ih' =>
                    intro i g g' hs
                    simp only [stepsR] at hs
                    split at hs
                    · cases hs
                    · rename_i gm hsm
                      obtain ⟨l, hl, hll⟩ := ih' _ _ _ hs
                      have : ∃ A, gm.acts = A :: g.acts := by
                        obtain ⟨_, _, hway⟩ := step1_way hsm
                        cases hway with
                        | off ds rs hw hr h => subst h; exact ⟨_, rfl⟩
                        | on ds rs hw hr nx v tag m ha hn rh wh q1 q2 h => subst h; exact ⟨_, rfl⟩
                        | call ds rs hw hr f f' args m args' need k val news tag recs ha hwr hrd hrec h => subst h; exact ⟨_, rfl⟩
                        | eff ds rs hw hr d deep need s k val upd news tag recs hrec δ hδ ls hls σ hσ hu h => subst h; exact ⟨_, rfl⟩
                        | fact ds rs hw hr d need s v recs hrec h => subst h; exact ⟨_, rfl⟩
                      obtain ⟨A, hA⟩ := this
                      exact ⟨l ++ [A], by rw [hl, hA]; simp, by simp [hll]⟩
                obtain ⟨A1, a1, b1, c1⟩ := nn _ _ s1
                obtain ⟨A2, a2, b2, c2⟩ := nn _ _ s2
                obtain ⟨l1, m1, m1'⟩ := acts_suffix rest _ _ _ e1
                obtain ⟨l2, m2, m2'⟩ := acts_suffix rest _ _ _ e2
                have hk3 : l1.map keyOf ++ g1'.acts.map keyOf = l2.map keyOf ++ g2'.acts.map keyOf := by
                  rw [← List.map_append, ← m1, ← List.map_append, ← m2]; exact hk2
                have hk4 := (List.append_inj hk3 (by simp [m1', m2'])).2
                refine ih _ _ _ _ _ e1 e2 ?_ hk4 hk2
                rw [a1, a2, List.map_cons, List.map_cons] at hk4
                injection hk4 with hk4 _
                unfold keyOf at hk4
                rw [b1, b2] at hk4
                simp only [Prod.mk.injEq] at hk4
                omega
        exact cnt [] [] (fun _ => 0) ops.toList 0 _ _ gd g0 hd1 hd rfl rfl hd3
      rw [← hd3, k1] at hk
      simp only [List.append_nil, List.map_reverse, List.mem_reverse, List.mem_map] at hk
      obtain ⟨A, hA, rfl⟩ := hk
      have := (k6 A hA).2
      rw [hnn] at this
      exact this
    · refine hQ ((List.range g0.n).map γ) .normal g.st g.recs g.E a' w' ⟨by simp; exact hn, fun gs hgs => ?_⟩ hlen hm'
      obtain ⟨g', h1, _, _, _, h5⟩ := hmain ((List.range g0.n).map γ) gs (by simp) hgs
      rw [hfun γ hγ, hg] at h1
      cases h1
      exact h5

theorem exec_true (hmix : P.follows .mixedOrders = true) : ∀ c : Code, True_ P w0 N (exec P c) (fun a w Q => c.wp P Q a w) := by
  intro c
  induction c with
  | skip =>
    intro st recs E K a w Q hm hN hrec hgood hQ
    exact wp_skip (hQ [] .normal st recs E a w ⟨by simp, fun gs _ => rfl⟩ hN hm)
  | exit id =>
    intro st recs E K a w Q hm hN hrec hgood hQ
    exact wp_exit (hQ [] (.exit id) st recs E a w ⟨by simp, fun gs _ => rfl⟩ hN hm)
  | ret =>
    intro st recs E K a w Q hm hN hrec hgood hQ
    exact wp_ret (hQ [] .ret st recs E a w ⟨by simp, fun gs _ => rfl⟩ hN hm)
  | region id ops draw => exact region_true hmix id ops draw
  | cond c x y ihx ihy =>
    intro st recs E K a w Q hm hN hrec hgood hQ
    obtain ⟨gs0, o0, s0, hl0, hx0, _⟩ := good_some hgood
    simp only [exec] at hx0
    cases hv : ev st.fr c with
    | bool t =>
      have he := ev_slot hm c t hv
      cases t with
      | true =>
        refine wp_cond_true he (ihx st recs E K a w Q hm hN hrec (fun gs hgs => ?_) (fun δ o st' recs' E' a' w' h => hQ δ o st' recs' E' a' w' ⟨h.1, fun gs hgs => ?_⟩))
        · obtain ⟨o, s', h1, h2⟩ := hgood gs hgs
          simp only [exec, hv] at h1
          exact ⟨o, s', h1, h2⟩
        · simp only [exec, hv]; exact h.2 gs hgs
      | false =>
        refine wp_cond_false he (ihy st recs E K a w Q hm hN hrec (fun gs hgs => ?_) (fun δ o st' recs' E' a' w' h => hQ δ o st' recs' E' a' w' ⟨h.1, fun gs hgs => ?_⟩))
        · obtain ⟨o, s', h1, h2⟩ := hgood gs hgs
          simp only [exec, hv] at h1
          exact ⟨o, s', h1, h2⟩
        · simp only [exec, hv]; exact h.2 gs hgs
    | _ => rw [hv] at hx0; cases hx0
  | seq x y ihx ihy =>
    intro st recs E K a w Q hm hN hrec hgood hQ
    refine wp_seq (ihx st recs E K a w _ hm hN hrec (fun gs hgs => ?_) (fun δ o st1 recs1 E1 a1 w1 h hN1 hm1 => ?_))
    · obtain ⟨o, s', h1, h2⟩ := hgood gs hgs
      simp only [exec] at h1
      split at h1
      · rename_i s1 hs1
        obtain ⟨⟨l, hl⟩, _⟩ := exec_ext y _ _ _ h1
        exact ⟨.normal, s1, hs1, EqOk.app (l := l) (by rw [← hl]; exact h2)⟩
      · exact ⟨o, s', h1, h2⟩
    · cases o with
      | normal =>
        show y.wp P Q a1 w1
        obtain ⟨_, ⟨lr, hlr⟩⟩ := exec_ext x _ _ _ (h.2 (List.replicate (K - δ.length) 0) (by have := h.1; simp; omega))
        dsimp only at hlr
        refine ihy st1 recs1 E1 (K - δ.length) a1 w1 Q hm1 hN1 (fun r hr => hrec r (by rw [hlr]; exact List.mem_append_right _ hr)) (fun gs hgs => ?_) (fun δ2 o st2 recs2 E2 a2 w2 h2 hN2 hm2 => ?_)
        · obtain ⟨o, s', h1, h3⟩ := hgood (δ ++ gs) (by have := h.1; rw [List.length_append]; omega)
          simp only [exec] at h1
          rw [h.2 gs (by have := h.1; omega)] at h1
          exact ⟨o, s', h1, h3⟩
        · refine hQ (δ ++ δ2) o st2 recs2 E2 a2 w2 ⟨by have := h.1; have := h2.1; rw [List.length_append]; omega, fun gs hgs => ?_⟩ hN2 hm2
          rw [List.length_append] at hgs
          simp only [exec, List.append_assoc]
          rw [h.2 (δ2 ++ gs) (by rw [List.length_append]; omega)]
          exact h2.2 gs (by omega)
      | exit id =>
        refine hQ δ (.exit id) st1 recs1 E1 a1 w1 ⟨h.1, fun gs hgs => ?_⟩ hN1 hm1
        simp only [exec]
        rw [h.2 gs hgs]
      | ret =>
        refine hQ δ .ret st1 recs1 E1 a1 w1 ⟨h.1, fun gs hgs => ?_⟩ hN1 hm1
        simp only [exec]
        rw [h.2 gs hgs]
  | block id c ih =>
    intro st recs E K a w Q hm hN hrec hgood hQ
    refine wp_block (ih st recs E K a w _ hm hN hrec (fun gs hgs => ?_) (fun δ o st1 recs1 E1 a1 w1 h hN1 hm1 => ?_))
    · obtain ⟨o, s', h1, h2⟩ := hgood gs hgs
      simp only [exec] at h1
      split at h1
      · rename_i i s1 hs1
        refine ⟨_, s1, hs1, ?_⟩
        split at h1 <;> (cases h1; exact h2)
      · exact ⟨o, s', h1, h2⟩
    · cases o with
      | normal =>
        refine hQ δ .normal st1 recs1 E1 a1 w1 ⟨h.1, fun gs hgs => ?_⟩ hN1 hm1
        simp only [exec]
        rw [h.2 gs hgs]
      | ret =>
        refine hQ δ .ret st1 recs1 E1 a1 w1 ⟨h.1, fun gs hgs => ?_⟩ hN1 hm1
        simp only [exec]
        rw [h.2 gs hgs]
      | exit i =>
        by_cases hi : i = id
        · subst hi
          show (if i = i then Q .normal a1 w1 else _)
          rw [if_pos rfl]
          refine hQ δ .normal st1 recs1 E1 a1 w1 ⟨h.1, fun gs hgs => ?_⟩ hN1 hm1
          simp only [exec]
          rw [h.2 gs hgs]
          simp
        · show (if i = id then _ else Q (.exit i) a1 w1)
          rw [if_neg hi]
          refine hQ δ (.exit i) st1 recs1 E1 a1 w1 ⟨h.1, fun gs hgs => ?_⟩ hN1 hm1
          simp only [exec]
          rw [h.2 gs hgs]
          simp [hi]
  | loop c ih =>
    intro st recs E K a w Q hm hN hrec hgood hQ
    by_cases hcode : ∃ c' k pre post out recs', recs = .codeN c' k pre post out :: recs'
    · obtain ⟨c', k, pre, post, out, recs', rfl⟩ := hcode
      have hx : ∀ gs : List Nat, gs.length = K → k ≤ K ∧ exec P (.loop c) ⟨st, gs, .codeN c' k pre post out :: recs', E⟩ = some (out, ⟨post (st.hp.map (·.g)) (fun q => (gs.take k).getD q 0), gs.drop k, recs',
          (It.code c, It.code c') :: (It.nat (post (st.hp.map (·.g)) (fun q => (gs.take k).getD q 0)).fr.length, It.nat st.fr.length) :: (chk (pre (st.hp.map (·.g))) st ++ E)⟩) ∧
          EqOk ((It.code c, It.code c') :: (It.nat (post (st.hp.map (·.g)) (fun q => (gs.take k).getD q 0)).fr.length, It.nat st.fr.length) :: (chk (pre (st.hp.map (·.g))) st ++ E)) := fun gs hgs => by
        obtain ⟨o, s', h1, h2⟩ := hgood gs hgs
        have h1' := h1
        simp only [exec] at h1
        split at h1
        · cases h1
        · rename_i hlt
          simp only [Option.some.injEq, Prod.mk.injEq] at h1
          rw [← h1.2] at h2
          rw [← h1.1, ← h1.2] at h1'
          exact ⟨by omega, h1', h2⟩
      have hfun : ∀ δ : Nat → Nat, (∀ q, k ≤ q → δ q = 0) → ∀ gs : List Nat, (fun q => (((List.range k).map δ ++ gs).take k).getD q 0) = δ := fun δ hδ gs => by
        funext q
        rw [List.take_append_of_le_length (by simp), List.take_of_length_le (by simp)]
        by_cases hq : q < k
        · simp [List.getD_eq_getElem?_getD, hq]
        · rw [hδ q (by omega)]
          simp [List.getD_eq_getElem?_getD, hq]
      obtain ⟨hkK, _, hE0⟩ := hx (List.replicate K 0) (by simp)
      have h1 := hE0.cons
      have h2 := h1.2.cons
      have hc : c = c' := by have := h1.1; injection this
      obtain ⟨hl, hm'⟩ := hm.of_chk (EqOk.left (E := E) h2.2)
      have hok : Rec.Ok P w0 (.codeN c' k pre post out) := hrec _ (by simp)
      have hN' : (pre (st.hp.map (·.g))).fr.length = N := by rw [hl]; exact hN
      subst hc
      refine wp_mono (hok (st.hp.map (·.g)) a w (by rw [hN']; exact hm')) ?_
      rintro e a' w' ⟨δ, hδ, rfl, hm2⟩
      rw [hN'] at hm2
      obtain ⟨_, _, hE1⟩ := hx ((List.range k).map δ ++ List.replicate (K - k) 0) (by simp; omega)
      rw [hfun δ hδ] at hE1
      have hlen := It.nat_inj hE1.cons.2.cons.1
      refine hQ ((List.range k).map δ) out (post (st.hp.map (·.g)) δ) recs' ((It.code c, It.code c) :: (It.nat (post (st.hp.map (·.g)) δ).fr.length, It.nat st.fr.length) :: (chk (pre (st.hp.map (·.g))) st ++ E)) a' w' ⟨by simpa using hkK, fun gs hgs => ?_⟩ (by rw [← hN]; exact hlen) hm2
      obtain ⟨_, e1, _⟩ := hx ((List.range k).map δ ++ gs) (by simpa using hgs)
      rw [e1, hfun δ hδ, List.drop_left' (by simp)]
    have hexec : ∀ gs, exec P (.loop c) ⟨st, gs, recs, E⟩ = iter (exec P c) 1000 ⟨st, gs, recs, E⟩ := fun gs => by
      simp only [exec]
      split
      · exact absurd ⟨_, _, _, _, _, _, rfl⟩ hcode
      · rfl
    refine wp_loop_rounds 1000 ?_
    have key : ∀ (n : Nat) (st : St) (recs : List Rec) (E : List (It × It)) (K : Nat) (a : Act) (w : World), Mod w0 N (toX st) a w → st.fr.length = N → (∀ r ∈ recs, r.Ok P w0) → Good (iter (exec P c) n) st recs E K →
        (∀ δ o st' recs' E' a' w', Ends (iter (exec P c) n) st recs E K δ o st' recs' E' → st'.fr.length = N → Mod w0 N (toX st') a' w' → Q o.exit_ a' w') → Code.rounds P c Q n a w := by
      intro n
      induction n with
      | zero =>
        intro st recs E K a w hm hN hrec hgood hQ
        obtain ⟨gs0, o0, s0, hl0, hx0, _⟩ := good_some hgood
        cases hx0
      | succ n ihn =>
        intro st recs E K a w hm hN hrec hgood hQ
        rw [rounds_succ]
        refine ih st recs E K a w _ hm hN hrec (fun gs hgs => ?_) (fun δ o st1 recs1 E1 a1 w1 h hN1 hm1 => ?_)
        · obtain ⟨o, s', h1, h2⟩ := hgood gs hgs
          simp only [iter] at h1
          split at h1
          · rename_i s1 hs1
            obtain ⟨⟨l, hl⟩, _⟩ := iter_ext (exec_ext c) n _ _ _ h1
            exact ⟨.normal, s1, hs1, EqOk.app (l := l) (by rw [← hl]; exact h2)⟩
          · exact ⟨o, s', h1, h2⟩
        · cases o with
          | normal =>
            show Code.rounds P c Q n a1 w1
            obtain ⟨_, ⟨lr, hlr⟩⟩ := exec_ext c _ _ _ (h.2 (List.replicate (K - δ.length) 0) (by have := h.1; simp; omega))
            dsimp only at hlr
            refine ihn st1 recs1 E1 (K - δ.length) a1 w1 hm1 hN1 (fun r hr => hrec r (by rw [hlr]; exact List.mem_append_right _ hr)) (fun gs hgs => ?_) (fun δ2 o st2 recs2 E2 a2 w2 h2 hN2 hm2 => ?_)
            · obtain ⟨o, s', h1, h3⟩ := hgood (δ ++ gs) (by have := h.1; rw [List.length_append]; omega)
              simp only [iter] at h1
              rw [h.2 gs (by have := h.1; omega)] at h1
              exact ⟨o, s', h1, h3⟩
            · refine hQ (δ ++ δ2) o st2 recs2 E2 a2 w2 ⟨by have := h.1; have := h2.1; rw [List.length_append]; omega, fun gs hgs => ?_⟩ hN2 hm2
              rw [List.length_append] at hgs
              simp only [iter, List.append_assoc]
              rw [h.2 (δ2 ++ gs) (by rw [List.length_append]; omega)]
              exact h2.2 gs (by omega)
          | exit id =>
            refine hQ δ (.exit id) st1 recs1 E1 a1 w1 ⟨h.1, fun gs hgs => ?_⟩ hN1 hm1
            simp only [iter]
            rw [h.2 gs hgs]
          | ret =>
            refine hQ δ .ret st1 recs1 E1 a1 w1 ⟨h.1, fun gs hgs => ?_⟩ hN1 hm1
            simp only [iter]
            rw [h.2 gs hgs]
    exact key 1000 st recs E K a w hm hN hrec (fun gs hgs => by rw [← hexec]; exact hgood gs hgs) (fun δ o st' recs' E' a' w' h => hQ δ o st' recs' E' a' w' ⟨h.1, fun gs hgs => by rw [hexec]; exact h.2 gs hgs⟩)
  | _ =>
    intro st recs E K a w Q hm hN hrec hgood hQ
    obtain ⟨gs0, o0, s0, hl0, hx0, _⟩ := good_some hgood
    simp [exec] at hx0
end

end Go.Ex
