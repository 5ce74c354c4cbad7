/- Code within a round of a range over a function, and code that goes on behind such a loop: the symbolic run tells the truth there too. No conditions but that the code is of plain regions. -/
import Derived.Test.YtildcmggcbdhpaaEx
import Derived.RangeFuncNested
import Derived.RangeFuncBound
import Derived.RangeFuncCalls
import Derived.TacticsIn
namespace Go.Ex
open Go.RowKit

section
variable {P : Program} {ops : Array Oper} {w0 : Frm} {N : Nat} {recs0 : List Rec}

theorem region_ops {st : St} {E : List (It × It)} {n : Nat} {ks0 : List (Nat × Nat × Nat × Nat)} {a : Act} {w : World} {Q : Exit → Act → World → Prop} 
    (hm : Mod w0 N (toX st) a w) (hN : st.fr.length = N) (hrec : ∀ r ∈ recs0, r.OkF P w0)
    (hlex : ∀ γ : Nat → Nat, (∀ i, n ≤ i → γ i = 0) → ∃ g, stepsR P γ ops.toList ops.toList 0 ⟨st, 0, recs0, E, []⟩ = some g ∧ EqOk g.E ∧ g.acts.map keyOf = ks0)
    (hends : ∀ k ∈ ks0, k.2.1 + k.2.2.1 ≤ n)
    (hQ : ∀ γ g a' w', (∀ i, n ≤ i → γ i = 0) → stepsR P γ ops.toList ops.toList 0 ⟨st, 0, recs0, E, []⟩ = some g → g.st.fr.length = N → Mod w0 N (toX g.st) a' w' → Q .normal a' w') : wpOps P ops Q (List.range ops.size) a w := by
  let F : (Nat → Nat) → G := fun γ => (stepsR P γ ops.toList ops.toList 0 ⟨st, 0, recs0, E, []⟩).getD default
  have hF : ∀ γ : Nat → Nat, (∀ i, n ≤ i → γ i = 0) → stepsR P γ ops.toList ops.toList 0 ⟨st, 0, recs0, E, []⟩ = some (F γ) ∧ EqOk (F γ).E ∧ (F γ).acts.map keyOf = ks0 := fun γ hγ => by
    obtain ⟨g, h1, h2⟩ := hlex γ hγ
    have : F γ = g := by show (stepsR P γ ops.toList ops.toList 0 ⟨st, 0, recs0, E, []⟩).getD default = g; rw [h1]; rfl
    rw [this]
    exact ⟨h1, h2⟩
  have hX : ∀ γ : Nat → Nat, (∀ i, n ≤ i → γ i = 0) → Run (toX st) (F γ).acts.reverse (toX (F γ).st) ∧ (F γ).acts.reverse.map (·.i) = List.range' 0 ops.size ∧ (∀ A ∈ (F γ).acts.reverse, Org P ops w0 N recs0 γ A) ∧
      (F γ).acts.reverse.Pairwise (fun A B => A.al.1 + A.al.2 ≤ B.al.1) ∧ (F γ).st.fr.length = N := fun γ hγ => by
    obtain ⟨h1, h2, h3⟩ := hF γ hγ
    obtain ⟨l, k1, k2, k3, k4, _, _, k7, k8⟩ := stepsR_lex (w0 := w0) (N := N) (recs0 := recs0) ops.toList 0 _ _ (fun j _ => by rw [Nat.zero_add, Array.getElem?_toList]) h1 h2 hrec ⟨[], rfl⟩ hN
    have e : (F γ).acts.reverse = l := by rw [k1]; simp
    rw [e]
    exact ⟨k2, by rw [k3]; simp, k4, k7, k8⟩
  have hz : ∀ i, n ≤ i → (fun _ : Nat => 0) i = 0 := fun _ _ => rfl
  have hks : ∀ γ : Nat → Nat, (∀ i, n ≤ i → γ i = 0) → (F γ).acts.reverse.map keyOf = ks0.reverse := fun γ hγ => by
    rw [List.map_reverse, (hF γ hγ).2.2]
  have hki : ks0.reverse.map (·.1) = List.range' 0 ops.size := by
    rw [← hks _ hz, List.map_map]
    exact (hX _ hz).2.1
  have hdisj : ks0.reverse.Pairwise (fun k k' => ∀ j, within k j → ¬ within k' j) := by
    rw [← hks _ hz, List.pairwise_map]
    refine (hX _ hz).2.2.2.1.imp (fun {A B} hAB j h1 h2 => ?_)
    unfold within keyOf at h1 h2
    dsimp only at h1 h2
    omega
  have hfree : ∀ k ∈ ks0.reverse, ∀ j, within k j → ¬ False ∧ j < n := fun k hk j hj => by
    have := hends k (by simpa using hk)
    unfold within at hj
    exact ⟨fun h => h, by omega⟩
  have hfin : ∀ γ a w, (∀ i, n ≤ i → γ i = 0) → Mod w0 N (toX (F γ).st) a w → Q .normal a w := fun γ a' w' hγ hm' => hQ γ (F γ) a' w' hγ (hF γ hγ).1 (hX γ hγ).2.2.2.2 hm'
  have hstg : ∀ (T : Actn → Actn → Prop) (w1 : World), Mod w0 N (toX st) a w1 → (∀ γ : Nat → Nat, (∀ i, n ≤ i → γ i = 0) → (F γ).acts.reverse.Pairwise T) →
      Stg P ops w0 N recs0 n (fun _ => False) (fun _ => 0) a w1 (fun _ => toX st) (fun γ => (F γ).acts.reverse) (fun γ => toX (F γ).st) ks0.reverse T := fun T w1 hm1 hT =>
    ⟨⟨hz, fun _ h => h.elim⟩, fun _ _ => hm1, fun γ hγ => (hX γ hγ.1).1, fun γ hγ => (hX γ hγ.1).2.2.1, fun γ hγ => hks γ hγ.1, fun γ hγ => hT γ hγ.1, hfree, hdisj⟩
  have h1 := stg_ops (Q := Q) (T := fun _ _ => True) hfin ks0.reverse (fun _ => False) (fun _ => 0) a w _ _ (hstg _ w hm (fun γ _ => List.pairwise_of_forall (fun _ _ => trivial)))
  rw [hki] at h1
  rw [List.range_eq_range']
  exact h1

theorem region_opsTrue (id : Nat) (ops : Array Oper) : True_ P w0 N (exec P (.region id ops false)) (fun a w Q => wpOps P ops Q (List.range ops.size) a w) := by
  intro st recs E K a w Q hm hN hrec hgood hQ
  -- the dry run
  obtain ⟨gs0, o0, s0, hl0, hx0, _⟩ := good_some hgood
  have hreg : ∀ gs o s', exec P (.region id ops false) ⟨st, gs, recs, E⟩ = some (o, s') → o = .normal ∧ region P ops.toList false ⟨st, gs, recs, E⟩ = some s' := fun gs o s' h => by
    simp only [exec] at h
    split at h
    · rename_i s1 h1
      simp only [Option.some.injEq, Prod.mk.injEq] at h
      exact ⟨h.1.symm, by rw [← h.2]; exact h1⟩
    · cases h
  obtain ⟨_, hx0⟩ := hreg _ _ _ hx0
  cases hd : stepsR P (fun _ => 0) ops.toList ops.toList 0 ⟨st, 0, recs, [], []⟩ with
  | none => unfold region at hx0; dsimp only at hx0; rw [hd] at hx0; cases hx0
  | some g0 =>
    have hn : g0.n ≤ K := by
      unfold region at hx0
      dsimp only at hx0
      rw [hd] at hx0
      dsimp only at hx0
      split at hx0
      · cases hx0
      · omega
    have hpure : ∀ (δ gs : List Nat), δ.length = g0.n → (fun i => ((δ ++ gs).take g0.n).getD i 0) = fun i => δ.getD i 0 := fun δ gs hδ => by
      rw [← hδ, List.take_left]
    have hmain : ∀ (δ gs : List Nat), δ.length = g0.n → δ.length + gs.length = K → ∃ g, stepsR P (fun i => δ.getD i 0) ops.toList ops.toList 0 ⟨st, 0, recs, E, []⟩ = some g ∧ EqOk g.E ∧ g.acts.map keyOf = g0.acts.map keyOf ∧ exec P (.region id ops false) ⟨st, δ ++ gs, recs, E⟩ = some (.normal, ⟨g.st, gs, g.recs, g.E⟩) := fun δ gs hδ hK => by
      obtain ⟨o, s', h1, h2⟩ := hgood (δ ++ gs) (by rw [List.length_append]; exact hK)
      obtain ⟨ho, h3⟩ := hreg _ _ _ h1
      subst ho
      have h3' := h3
      unfold region at h3
      dsimp only at h3
      rw [hd] at h3
      dsimp only at h3
      split at h3
      · cases h3
      · rw [hpure δ gs hδ] at h3
        split at h3
        · cases h3
        · rename_i g hg
          split at h3
          · rename_i hb
            cases h3
            simp only [Bool.and_eq_true, Bool.or_eq_true, Bool.not_eq_true', beq_iff_eq] at hb
            refine ⟨g, hg, h2, hb.1, ?_⟩
            rw [h1]
            rw [← hδ, List.drop_left]
          · cases h3
    have hfun : ∀ γ : Nat → Nat, (∀ i, g0.n ≤ i → γ i = 0) → (fun i => ((List.range g0.n).map γ).getD i 0) = γ := fun γ hγ => by
      funext i
      by_cases hi : i < g0.n
      · simp [List.getD_eq_getElem?_getD, hi]
      · rw [hγ i (by omega)]
        simp [List.getD_eq_getElem?_getD, hi]
    obtain ⟨gd, hd1, hd2, hd3, _⟩ := hmain (List.replicate g0.n 0) (List.replicate (K - g0.n) 0) (by simp) (by simp; omega)
    refine region_ops (n := g0.n) (ks0 := g0.acts.map keyOf) (E := E) (w0 := w0) (N := N) (recs0 := recs) hm hN hrec (fun γ hγ => ?_) (fun k hk => ?_) (fun γ g a' w' hγ hg hlen hm' => ?_)
    · obtain ⟨g, h1, h2, h3, _⟩ := hmain ((List.range g0.n).map γ) (List.replicate (K - g0.n) 0) (by simp) (by simp; omega)
      rw [hfun γ hγ] at h1
      exact ⟨g, h1, h2, h3⟩
    · have hz : (fun i => (List.replicate g0.n 0).getD i 0) = fun _ => 0 := by
        funext i
        by_cases hi : i < g0.n <;> simp [List.getD_eq_getElem?_getD, hi]
      rw [hz] at hd1
      obtain ⟨l, k1, _, _, _, _, k6, _⟩ := stepsR_lex (w0 := w0) (N := N) (recs0 := recs) ops.toList 0 _ _ (fun j _ => by rw [Nat.zero_add, Array.getElem?_toList]) hd1 hd2 hrec ⟨[], rfl⟩ hN
      have hnn : gd.n = g0.n := by
        -- the last action's numbers end at n; the count is the sum of the keys
        have cnt : ∀ (E1 E2 : List (It × It)) (γ : Nat → Nat) (rest : List Oper) (i : Nat) (g1 g2 h1 h2 : G), stepsR P γ ops.toList rest i g1 = some h1 → stepsR P γ ops.toList rest i g2 = some h2 → g1.n = g2.n → g1.acts.map keyOf = g2.acts.map keyOf →
            h1.acts.map keyOf = h2.acts.map keyOf → h1.n = h2.n := by
          intro E1 E2 γ rest
          induction rest with
          | nil =>
            intro i g1 g2 h1 h2 e1 e2 hn' _ _
            simp only [stepsR, Option.some.injEq] at e1 e2
            rw [← e1, ← e2]; exact hn'
          | cons o rest ih =>
            intro i g1 g2 h1 h2 e1 e2 hn' hk1 hk2
            simp only [stepsR] at e1 e2
            split at e1
            · cases e1
            · rename_i g1' s1
              split at e2
              · cases e2
              · rename_i g2' s2
                have nn : ∀ (g g' : G), step1 P γ ops.toList o i g = some g' → ∃ A, g'.acts = A :: g.acts ∧ A.al = (g.n, g'.n - g.n) ∧ g.n ≤ g'.n := fun g g' hs => by
                  obtain ⟨_, _, hway⟩ := step1_way hs
                  cases hway with
                  | off ds rs hw hr h => subst h; exact ⟨_, rfl, rfl, Nat.le_refl _⟩
                  | on ds rs hw hr nx v tag m ha hn rh wh q1 q2 h => subst h; exact ⟨_, rfl, rfl, (arun_ext _ _ _ _ ha).n⟩
                  | call ds rs hw hr f f' args m args' need k val news tag recs ha hwr hrd hrec h => subst h; exact ⟨_, rfl, rfl, Nat.le_add_right _ _⟩
                  | eff ds rs hw hr d deep need s k val upd news tag recs hrec δ hδ ls hls σ hσ hu h => subst h; exact ⟨_, rfl, rfl, Nat.le_add_right _ _⟩
                  | fact ds rs hw hr d need s v recs hrec h => subst h; exact ⟨_, rfl, rfl, Nat.le_refl _⟩
                have acts_suffix : ∀ (rest : List Oper) (i : Nat) (g g' : G), stepsR P γ ops.toList rest i g = some g' → ∃ l, g'.acts = l ++ g.acts ∧ l.length = rest.length := by
                  intro rest
                  induction rest with
                  | nil => intro i g g' hs; simp only [stepsR, Option.some.injEq] at hs; exact ⟨[], by rw [hs]; rfl, rfl⟩
                  | cons o' rest ih' =>
                    intro i g g' hs
                    simp only [stepsR] at hs
                    split at hs
                    · cases hs
                    · rename_i gm hsm
                      obtain ⟨l, hl, hll⟩ := ih' _ _ _ hs
                      have : ∃ A, gm.acts = A :: g.acts := by
                        obtain ⟨_, _, hway⟩ := step1_way hsm
                        cases hway with
                        | off ds rs hw hr h => subst h; exact ⟨_, rfl⟩
                        | on ds rs hw hr nx v tag m ha hn rh wh q1 q2 h => subst h; exact ⟨_, rfl⟩
                        | call ds rs hw hr f f' args m args' need k val news tag recs ha hwr hrd hrec h => subst h; exact ⟨_, rfl⟩
                        | eff ds rs hw hr d deep need s k val upd news tag recs hrec δ hδ ls hls σ hσ hu h => subst h; exact ⟨_, rfl⟩
                        | fact ds rs hw hr d need s v recs hrec h => subst h; exact ⟨_, rfl⟩
                      obtain ⟨A, hA⟩ := this
                      exact ⟨l ++ [A], by rw [hl, hA]; simp, by simp [hll]⟩
                obtain ⟨A1, a1, b1, c1⟩ := nn _ _ s1
                obtain ⟨A2, a2, b2, c2⟩ := nn _ _ s2
                obtain ⟨l1, m1, m1'⟩ := acts_suffix rest _ _ _ e1
                obtain ⟨l2, m2, m2'⟩ := acts_suffix rest _ _ _ e2
                have hk3 : l1.map keyOf ++ g1'.acts.map keyOf = l2.map keyOf ++ g2'.acts.map keyOf := by
                  rw [← List.map_append, ← m1, ← List.map_append, ← m2]; exact hk2
                have hk4 := (List.append_inj hk3 (by simp [m1', m2'])).2
                refine ih _ _ _ _ _ e1 e2 ?_ hk4 hk2
                rw [a1, a2, List.map_cons, List.map_cons] at hk4
                injection hk4 with hk4 _
                unfold keyOf at hk4
                rw [b1, b2] at hk4
                simp only [Prod.mk.injEq] at hk4
                omega
        exact cnt [] [] (fun _ => 0) ops.toList 0 _ _ gd g0 hd1 hd rfl rfl hd3
      rw [← hd3, k1] at hk
      simp only [List.append_nil, List.map_reverse, List.mem_reverse, List.mem_map] at hk
      obtain ⟨A, hA, rfl⟩ := hk
      have := (k6 A hA).2
      rw [hnn] at this
      exact this
    · refine hQ ((List.range g0.n).map γ) .normal g.st g.recs g.E a' w' ⟨by simp; exact hn, fun gs hgs => ?_⟩ hlen hm'
      obtain ⟨g', h1, _, _, h5⟩ := hmain ((List.range g0.n).map γ) gs (by simp) hgs
      rw [hfun γ hγ, hg] at h1
      cases h1
      exact h5

/-- Code of plain regions, one behind the other. -/
def wpS (P : Program) : Code → (Exit → Act → World → Prop) → Act → World → Prop
  | .skip, Q, a, w => Q .normal a w
  | .region _ ops false, Q, a, w => wpOps P ops Q (List.range ops.size) a w
  | .seq x y, Q, a, w => wpS P x (Exit.then (wpS P y Q) Q) a w
  | .block id c, Q, a, w => wpS P c (Exit.inBlock id Q) a w
  | _, _, _, _ => False

def isDefer : Op → Bool
  | .defer _ => true
  | _ => false

def plainC : Code → Bool
  | .skip => true
  | .region _ ops draw => !draw && ops.toList.all fun o => !isDefer o.op
  | .seq x y => plainC x && plainC y
  | .block _ c => plainC c
  | _ => false

theorem wpS_true : ∀ c : Code, plainC c = true → True_ P w0 N (exec P c) (fun a w Q => wpS P c Q a w) := by
  intro c
  induction c with
  | skip =>
    intro _ st recs E K a w Q hm hN hrec hgood hQ
    exact hQ [] .normal st recs E a w ⟨by simp, fun gs _ => rfl⟩ hN hm
  | region id ops draw =>
    intro hp
    simp only [plainC, Bool.and_eq_true, Bool.not_eq_true'] at hp
    obtain ⟨rfl, _⟩ := hp
    exact region_opsTrue id ops
  | seq x y ihx ihy =>
    intro hp
    simp only [plainC, Bool.and_eq_true] at hp
    intro st recs E K a w Q hm hN hrec hgood hQ
    refine (ihx hp.1 st recs E K a w _ hm hN hrec (fun gs hgs => ?_) (fun δ o st1 recs1 E1 a1 w1 h hN1 hm1 => ?_))
    · obtain ⟨o, s', h1, h2⟩ := hgood gs hgs
      simp only [exec] at h1
      split at h1
      · rename_i s1 hs1
        obtain ⟨⟨l, hl⟩, _⟩ := exec_ext y _ _ _ h1
        exact ⟨.normal, s1, hs1, EqOk.app (l := l) (by rw [← hl]; exact h2)⟩
      · exact ⟨o, s', h1, h2⟩
    · cases o with
      | normal =>
        show wpS P y Q a1 w1
        obtain ⟨_, ⟨lr, hlr⟩⟩ := exec_ext x _ _ _ (h.2 (List.replicate (K - δ.length) 0) (by have := h.1; simp; omega))
        dsimp only at hlr
        refine ihy hp.2 st1 recs1 E1 (K - δ.length) a1 w1 Q hm1 hN1 (fun r hr => hrec r (by rw [hlr]; exact List.mem_append_right _ hr)) (fun gs hgs => ?_) (fun δ2 o st2 recs2 E2 a2 w2 h2 hN2 hm2 => ?_)
        · obtain ⟨o, s', h1, h3⟩ := hgood (δ ++ gs) (by have := h.1; rw [List.length_append]; omega)
          simp only [exec] at h1
          rw [h.2 gs (by have := h.1; omega)] at h1
          exact ⟨o, s', h1, h3⟩
        · refine hQ (δ ++ δ2) o st2 recs2 E2 a2 w2 ⟨by have := h.1; have := h2.1; rw [List.length_append]; omega, fun gs hgs => ?_⟩ hN2 hm2
          rw [List.length_append] at hgs
          simp only [exec, List.append_assoc]
          rw [h.2 (δ2 ++ gs) (by rw [List.length_append]; omega)]
          exact h2.2 gs (by omega)
      | exit id =>
        refine hQ δ (.exit id) st1 recs1 E1 a1 w1 ⟨h.1, fun gs hgs => ?_⟩ hN1 hm1
        simp only [exec]
        rw [h.2 gs hgs]
      | ret =>
        refine hQ δ .ret st1 recs1 E1 a1 w1 ⟨h.1, fun gs hgs => ?_⟩ hN1 hm1
        simp only [exec]
        rw [h.2 gs hgs]
  | block id c ih =>
    intro hp
    intro st recs E K a w Q hm hN hrec hgood hQ
    refine (ih hp st recs E K a w _ hm hN hrec (fun gs hgs => ?_) (fun δ o st1 recs1 E1 a1 w1 h hN1 hm1 => ?_))
    · obtain ⟨o, s', h1, h2⟩ := hgood gs hgs
      simp only [exec] at h1
      split at h1
      · rename_i i s1 hs1
        refine ⟨_, s1, hs1, ?_⟩
        split at h1 <;> (cases h1; exact h2)
      · exact ⟨o, s', h1, h2⟩
    · cases o with
      | normal =>
        refine hQ δ .normal st1 recs1 E1 a1 w1 ⟨h.1, fun gs hgs => ?_⟩ hN1 hm1
        simp only [exec]
        rw [h.2 gs hgs]
      | ret =>
        refine hQ δ .ret st1 recs1 E1 a1 w1 ⟨h.1, fun gs hgs => ?_⟩ hN1 hm1
        simp only [exec]
        rw [h.2 gs hgs]
      | exit i =>
        by_cases hi : i = id
        · subst hi
          show (if i = i then Q .normal a1 w1 else _)
          rw [if_pos rfl]
          refine hQ δ .normal st1 recs1 E1 a1 w1 ⟨h.1, fun gs hgs => ?_⟩ hN1 hm1
          simp only [exec]
          rw [h.2 gs hgs]
          simp
        · show (if i = id then _ else Q (.exit i) a1 w1)
          rw [if_neg hi]
          refine hQ δ (.exit i) st1 recs1 E1 a1 w1 ⟨h.1, fun gs hgs => ?_⟩ hN1 hm1
          simp only [exec]
          rw [h.2 gs hgs]
          simp [hi]
  | _ => intro h; cases h

theorem ops_in {Q : Exit → Act → World → Prop} (hQ : ¬ LetsOut Q) (r n : Nat) (hd : ∀ o ∈ ops, isDefer o.op = false) : ∀ (l : List Nat) (a : Act) (w : World), wpOps P ops Q l a w → wpOpsIn (Fence.wide.inRound r) n P ops Q l a w := by
  intro l
  induction l with
  | nil => intro a w h; exact h
  | cons i rest ih =>
    intro a w h
    simp only [wpOps, wpOpsIn] at h ⊢
    cases ho : ops[i]? with
    | none => rw [ho] at h; exact ih a w h
    | some o =>
      rw [ho] at h
      dsimp only at h ⊢
      have hmem : o ∈ ops := Array.mem_of_getElem? ho
      have hsem : o.semAt (some r) a.eval = execOp a.eval o := Oper.semAt_some r _ o fun c hc => by
        have := hd o hmem
        rw [hc] at this
        cases this
      split
      · rename_i hw
        rw [if_pos hw] at h
        rcases h with h | ⟨_, h⟩
        · refine ⟨fun _ _ => trivial, ?_⟩
          unfold Oper.wp at h
          show o.uponIn (Fence.wide.inRound r) n P a _ Q ((o.semAt (some r) a.eval).run P w)
          rw [hsem]
          generalize (execOp a.eval o).run P w = res at h ⊢
          cases res with
          | ok x w' =>
            cases x with
            | value v => exact ih _ _ h
            | skip => exact ih _ _ h
            | defer d => exact ih _ _ h
            | enter f args =>
              refine ⟨fun hn => (by cases hn), CallsIn.inRound r (callsIn_wide.2 (Calls.mono h ?_))⟩
              intro e w'' he
              cases e with
              | returned v => exact ih _ _ he
              | panicked chain => exact he
              | outgrown => exact he
            | row row args =>
              refine ⟨fun hn => (by cases hn), fun c cs _ => ?_⟩
              obtain ⟨v, w'', h1, h2⟩ := h c cs
              exact ⟨v, w'', ih _ _ h1, stepsIn_wide.2 h2⟩
            | _ => exact h.elim
          | halt x w' =>
            cases x with
            | panic v => exact h
            | _ => exact h.elim
        · exact absurd h hQ
      · rename_i hw
        rw [if_neg hw] at h
        exact ⟨fun _ _ => trivial, ih _ _ h⟩

theorem wpS_in (r n : Nat) : ∀ (c : Code) (Q : Exit → Act → World → Prop) (a : Act) (w : World), plainC c = true → ¬ LetsOut Q → wpS P c Q a w → c.wpIn (Fence.wide.inRound r) n P Q a w := by
  intro c
  induction c with
  | skip => intro Q a w _ _ h; exact wpIn_skip h
  | region id ops draw =>
    intro Q a w hp hQ h
    simp only [plainC, Bool.and_eq_true, Bool.not_eq_true'] at hp
    obtain ⟨rfl, hp⟩ := hp
    rw [List.all_eq_true] at hp
    exact wpIn_region (ops_in hQ r n (fun o ho => by simpa using hp o (by simpa using ho)) _ a w h)
  | seq x y ihx ihy =>
    intro Q a w hp hQ h
    simp only [plainC, Bool.and_eq_true] at hp
    refine wpIn_seq (wpIn_mono (ihx (Exit.then (wpS P y Q) Q) a w hp.1 (fun ⟨a', w', hh⟩ => hQ ⟨a', w', hh⟩) h) ?_)
    intro e a' w' he
    cases e with
    | normal => exact ihy _ a' w' hp.2 hQ he
    | _ => exact he
  | block id c ih =>
    intro Q a w hp hQ h
    exact wpIn_block (ih (Exit.inBlock id Q) a w hp (fun ⟨a', w', hh⟩ => hQ ⟨a', w', hh⟩) h)
  | _ => intro Q a w h; cases h

/-- Plain code within a round, from one state to another. -/
theorem code_wpS {c : Code} (hc : plainC c = true) (st : St) (want : (Nat → Nat) → St) (K : Nat) (recs : List Rec) (hrecs : ∀ r ∈ recs, r.OkF P w0)
    (heq : ∀ γ : Nat → Nat, endL (want γ) (exec P c ⟨st, (List.range K).map γ, recs, []⟩) = endR .normal (want γ) (exec P c ⟨st, (List.range K).map γ, recs, []⟩)) {a : Act} {w : World} (hm : Mod w0 N (toX st) a w) (hN : st.fr.length = N) (r n : Nat) :
    c.wpIn (Fence.wide.inRound r) n P (fun e a' w' => ∃ γ : Nat → Nat, e = .normal ∧ Mod w0 N (toX (want γ)) a' w' ∧ (want γ).fr.length = N) a w := by
  refine wpS_in r n c _ a w hc (fun ⟨_, _, _, h, _⟩ => by cases h) ?_
  have hlist : ∀ gs : List Nat, gs.length = K → (List.range K).map (fun i => gs.getD i 0) = gs := fun gs hgs => by
    apply List.ext_getElem?
    intro i
    by_cases hi : i < K
    · simp [List.getD_eq_getElem?_getD, hi, List.getElem?_eq_getElem (show i < gs.length by omega)]
    · rw [List.getElem?_eq_none (by simp; omega), List.getElem?_eq_none (by omega)]
  refine wpS_true c hc st recs [] K a w _ hm hN hrecs (fun gs hgs => ?_) (fun δ o' st' recs' E' a' w' h hN' hm' => ?_)
  · have h1 := heq (fun i => gs.getD i 0)
    rw [hlist gs hgs] at h1
    obtain ⟨s, h2, h3⟩ := end_eq h1
    exact ⟨.normal, s, h2, h3.app⟩
  · have hK : (δ ++ List.replicate (K - δ.length) 0).length = K := by have := h.1; simp; omega
    have h1 := heq (fun i => (δ ++ List.replicate (K - δ.length) 0).getD i 0)
    rw [hlist _ hK, h.2 (List.replicate (K - δ.length) 0) (by have := h.1; simp; omega)] at h1
    obtain ⟨s, h2, h3⟩ := end_eq h1
    simp only [Option.some.injEq, Prod.mk.injEq] at h2
    obtain ⟨rfl, rfl⟩ := h2
    obtain ⟨e1, e2⟩ := hm'.of_chk h3.left
    exact ⟨_, rfl, e2, e1.trans hN'⟩


/-- The first n pieces of a row of code; what comes behind. -/
def pre : Nat → Code → Code
  | 0, _ => .skip
  | n + 1, .seq x y => .seq x (pre n y)
  | _ + 1, _ => .goto 0
def suf : Nat → Code → Code
  | 0, c => c
  | n + 1, .seq _ y => suf n y
  | _ + 1, c => c

theorem pre_true (hmix : P.follows .mixedOrders = true) : ∀ (n : Nat) (c : Code), True_ P w0 N (exec P (pre n c)) (fun a w Q' => ∀ Q : Exit → Act → World → Prop, (∀ a' w', Q' .normal a' w' → (suf n c).wp P Q a' w') → (∀ e a' w', e ≠ .normal → Q' e a' w' → Q e a' w') → c.wp P Q a w) := by
  intro n
  induction n with
  | zero =>
    intro c st recs E K a w Q' hm hN hrec hgood hQ Q h1 h2
    exact h1 a w (hQ [] .normal st recs E a w ⟨by simp, fun gs _ => rfl⟩ hN hm)
  | succ n ih =>
    intro c
    cases c with
    | seq x y =>
      intro st recs E K a w Q' hm hN hrec hgood hQ' Q hk1 hk2
      refine wp_seq (exec_true hmix x st recs E K a w _ hm hN hrec (fun gs hgs => ?_) (fun δ o st1 recs1 E1 a1 w1 h hN1 hm1 => ?_))
      · obtain ⟨o, s', h1, h2⟩ := hgood gs hgs
        simp only [pre, exec] at h1
        split at h1
        · rename_i s1 hs1
          obtain ⟨⟨l, hl⟩, _⟩ := exec_ext (pre n y) _ _ _ h1
          exact ⟨.normal, s1, hs1, EqOk.app (l := l) (by rw [← hl]; exact h2)⟩
        · exact ⟨o, s', h1, h2⟩
      · cases o with
        | normal =>
          show y.wp P Q a1 w1
          obtain ⟨_, ⟨lr, hlr⟩⟩ := exec_ext x _ _ _ (h.2 (List.replicate (K - δ.length) 0) (by have := h.1; simp; omega))
          dsimp only at hlr
          refine ih y st1 recs1 E1 (K - δ.length) a1 w1 Q' hm1 hN1 (fun r hr => hrec r (by rw [hlr]; exact List.mem_append_right _ hr)) (fun gs hgs => ?_) (fun δ2 o st2 recs2 E2 a2 w2 h2 hN2 hm2 => ?_) Q hk1 hk2
          · obtain ⟨o, s', h1, h3⟩ := hgood (δ ++ gs) (by have := h.1; rw [List.length_append]; omega)
            simp only [pre, exec] at h1
            rw [h.2 gs (by have := h.1; omega)] at h1
            exact ⟨o, s', h1, h3⟩
          · refine hQ' (δ ++ δ2) o st2 recs2 E2 a2 w2 ⟨by have := h.1; have := h2.1; rw [List.length_append]; omega, fun gs hgs => ?_⟩ hN2 hm2
            rw [List.length_append] at hgs
            simp only [pre, exec, List.append_assoc]
            rw [h.2 (δ2 ++ gs) (by rw [List.length_append]; omega)]
            exact h2.2 gs (by omega)
        | exit id =>
          refine hk2 (.exit id) a1 w1 (fun h => by cases h) (hQ' δ (.exit id) st1 recs1 E1 a1 w1 ⟨h.1, fun gs hgs => ?_⟩ hN1 hm1)
          simp only [pre, exec]
          rw [h.2 gs hgs]
        | ret =>
          refine hk2 .ret a1 w1 (fun h => by cases h) (hQ' δ .ret st1 recs1 E1 a1 w1 ⟨h.1, fun gs hgs => ?_⟩ hN1 hm1)
          simp only [pre, exec]
          rw [h.2 gs hgs]
    | _ =>
      intro st recs E K a w Q' hm hN hrec hgood hQ Q h1 h2
      obtain ⟨gs, o, s', _, h, _⟩ := good_some hgood
      cases h

/-- A row of code, cut in two. -/
theorem cut_wp {c : Code} (hmix : P.follows .mixedOrders = true) (n : Nat) (st : St) (want : (Nat → Nat) → St) (K : Nat) (recs : List Rec) (hrecs : ∀ r ∈ recs, r.OkF P w0)
    (heq : ∀ γ : Nat → Nat, endL (want γ) (exec P (pre n c) ⟨st, (List.range K).map γ, recs, []⟩) = endR .normal (want γ) (exec P (pre n c) ⟨st, (List.range K).map γ, recs, []⟩)) {a : Act} {w : World} (hm : Mod w0 N (toX st) a w) (hN : st.fr.length = N)
    {Q : Exit → Act → World → Prop} (hQ : ∀ (γ : Nat → Nat) a' w', Mod w0 N (toX (want γ)) a' w' → (want γ).fr.length = N → (suf n c).wp P Q a' w') : c.wp P Q a w := by
  have hlist : ∀ gs : List Nat, gs.length = K → (List.range K).map (fun i => gs.getD i 0) = gs := fun gs hgs => by
    apply List.ext_getElem?
    intro i
    by_cases hi : i < K
    · simp [List.getD_eq_getElem?_getD, hi, List.getElem?_eq_getElem (show i < gs.length by omega)]
    · rw [List.getElem?_eq_none (by simp; omega), List.getElem?_eq_none (by omega)]
  refine pre_true hmix n c st recs [] K a w (fun e a' w' => ∃ γ : Nat → Nat, e = .normal ∧ Mod w0 N (toX (want γ)) a' w' ∧ (want γ).fr.length = N) hm hN hrecs (fun gs hgs => ?_) (fun δ o' st' recs' E' a' w' h hN' hm' => ?_) Q (fun a' w' ⟨γ, _, h1, h2⟩ => hQ γ a' w' h1 h2) (fun e a' w' he ⟨γ, h1, _⟩ => absurd h1 he)
  · have h1 := heq (fun i => gs.getD i 0)
    rw [hlist gs hgs] at h1
    obtain ⟨s, h2, h3⟩ := end_eq h1
    exact ⟨.normal, s, h2, h3.app⟩
  · have hK : (δ ++ List.replicate (K - δ.length) 0).length = K := by have := h.1; simp; omega
    have h1 := heq (fun i => (δ ++ List.replicate (K - δ.length) 0).getD i 0)
    rw [hlist _ hK, h.2 (List.replicate (K - δ.length) 0) (by have := h.1; simp; omega)] at h1
    obtain ⟨s, h2, h3⟩ := end_eq h1
    simp only [Option.some.injEq, Prod.mk.injEq] at h2
    obtain ⟨rfl, rfl⟩ := h2
    obtain ⟨e1, e2⟩ := hm'.of_chk h3.left
    exact ⟨_, rfl, e2, e1.trans hN'⟩

end
end Go.Ex
