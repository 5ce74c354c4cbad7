/- A region of the symbolic run tells the truth, in whatever order its operations come. No conditions. -/
import Derived.Test.YtildcmggcbdhpaaExB
namespace Go.Ex
open Go.RowKit

def Run : X → List Actn → X → Prop
  | x, [], y => x = y
  | x, A :: l, y => A.Pre x ∧ Run (A.app x) l y

theorem hits_false {l m : List Nat} (h : hits l m = false) {x : Nat} (hl : x ∈ l) : x ∉ m := by
  intro hm
  have : hits l m = true := by
    unfold hits
    rw [List.any_eq_true]
    refine ⟨x, hl, ?_⟩
    rw [List.any_eq_true]
    exact ⟨x, hm, by simp⟩
  rw [h] at this
  cases this

structure Apart (a b : Actn) : Prop where
  s1 : ∀ d v, a.ws = some (d, v) → d ∉ b.rs.map (·.1)
  s2 : ∀ d v d' v', a.ws = some (d, v) → b.ws = some (d', v') → d ≠ d'
  s3 : ∀ d v, b.ws = some (d, v) → d ∉ a.rs.map (·.1)
  h1 : ∀ k ∈ a.wh.map (·.1), k ∉ b.rh.map (·.1)
  h2 : ∀ k ∈ a.wh.map (·.1), k ∉ b.wh.map (·.1)
  h3 : ∀ k ∈ b.wh.map (·.1), k ∉ a.rh.map (·.1)

theorem apart_spec {a b : Actn} (h : apart a b = true) : Apart a b := by
  unfold apart at h
  simp only [Bool.and_eq_true, Bool.not_eq_true'] at h
  obtain ⟨⟨⟨h1, h2⟩, h3⟩, h4⟩ := h
  refine ⟨fun d v hd => ?_, fun d v d' v' hd hd' => ?_, fun d v hd => ?_, fun k hk => ?_, fun k hk => ?_, fun k hk => ?_⟩
  · have := hits_false h1 (x := d) (by simp [hd])
    simp only [List.mem_append, not_or] at this
    exact this.1
  · have := hits_false h1 (x := d) (by simp [hd])
    simp only [List.mem_append, not_or] at this
    intro hh
    exact this.2 (by simp [hd', hh])
  · exact hits_false h2 (x := d) (by simp [hd])
  · have := hits_false h3 hk
    simp only [List.mem_append, not_or] at this
    exact this.1
  · have := hits_false h3 hk
    simp only [List.mem_append, not_or] at this
    exact this.2
  · exact hits_false h4 hk

theorem lookA_ne {β : Type} {l : List (Nat × β)} {k : Nat} (h : k ∉ l.map (·.1)) : lookA l k = none := by
  cases hl : lookA l k with
  | none => rfl
  | some e => exact absurd (List.mem_map.2 ⟨_, lookA_mem l k e hl, rfl⟩) h

theorem look_some_mem {β : Type} {l : List (Nat × β)} {k : Nat} {e : β} (h : lookA l k = some e) : k ∈ l.map (·.1) := List.mem_map.2 ⟨_, lookA_mem l k e h, rfl⟩

theorem app_comm {a b : Actn} (h : Apart a b) (x : X) : b.app (a.app x) = a.app (b.app x) := by
  refine X.ext' (fun t => ?_) (fun k => ?_)
  · simp only [Actn.app]
    cases ha : a.ws with
    | none => cases hb : b.ws <;> rfl
    | some p =>
      obtain ⟨d, v⟩ := p
      cases hb : b.ws with
      | none => rfl
      | some p' =>
        obtain ⟨d', v'⟩ := p'
        have := h.s2 d v d' v' ha hb
        dsimp only
        by_cases h1 : t = d
        · subst h1
          rw [if_neg this, if_pos rfl, if_pos rfl]
        · rw [if_neg h1, if_neg h1]
  · simp only [Actn.app]
    cases ha : lookA a.wh k with
    | none => cases hb : lookA b.wh k <;> rfl
    | some e =>
      rw [lookA_ne (h.h2 k (look_some_mem ha))]

theorem pre_back {a b : Actn} (h : Apart a b) {x : X} (hp : b.Pre (a.app x)) : b.Pre x := by
  refine ⟨fun p hpm => ?_, fun p hpm => ?_⟩
  · have h1 := hp.1 p hpm
    simp only [Actn.app] at h1
    cases ha : a.ws with
    | none => rw [ha] at h1; exact h1
    | some q =>
      obtain ⟨d, v⟩ := q
      rw [ha] at h1
      have := h.s1 d v ha
      dsimp only at h1
      rw [if_neg (fun hh => this (List.mem_map.2 ⟨p, hpm, hh⟩))] at h1
      exact h1
  · have h1 := hp.2 p hpm
    simp only [Actn.app] at h1
    cases ha : lookA a.wh p.1 with
    | none => rw [ha] at h1; exact h1
    | some e => exact absurd (List.mem_map.2 ⟨p, hpm, rfl⟩) (h.h1 p.1 (look_some_mem ha))

theorem pre_fore {a b : Actn} (h : Apart a b) {x : X} (hp : a.Pre x) : a.Pre (b.app x) := by
  refine ⟨fun p hpm => ?_, fun p hpm => ?_⟩
  · have h1 := hp.1 p hpm
    simp only [Actn.app]
    cases hb : b.ws with
    | none => exact h1
    | some q =>
      obtain ⟨d, v⟩ := q
      have := h.s3 d v hb
      dsimp only
      rw [if_neg (fun hh => this (List.mem_map.2 ⟨p, hpm, hh⟩))]
      exact h1
  · have h1 := hp.2 p hpm
    simp only [Actn.app]
    cases hb : lookA b.wh p.1 with
    | none => exact h1
    | some e => exact absurd (List.mem_map.2 ⟨p, hpm, rfl⟩) (h.h3 p.1 (look_some_mem hb))

theorem Run.move : ∀ (l1 : List Actn) (r : Actn) (l2 : List Actn) (x y : X), Run x (l1 ++ r :: l2) y → (∀ b ∈ l1, apart b r = true) → r.Pre x ∧ Run (r.app x) (l1 ++ l2) y
  | [], _, _, _, _, h, _ => h
  | b :: l1, r, l2, x, y, h, ha => by
    obtain ⟨h1, h2⟩ := h
    obtain ⟨h3, h4⟩ := Run.move l1 r l2 (b.app x) y h2 (fun c hc => ha c (List.mem_cons_of_mem _ hc))
    have hap := apart_spec (ha b (by simp))
    refine ⟨pre_back hap h3, pre_fore hap h1, ?_⟩
    rw [← app_comm hap]
    exact h4

section
variable {P : Program} {ops : Array Oper} {w0 : World} {N n : Nat} {recs0 : List Rec} {Q : Exit → Act → World → Prop}

/-- Where an action comes from. -/
def Org (P : Program) (ops : Array Oper) (w0 : World) (N : Nat) (recs0 : List Rec) (γ : Nat → Nat) (A : Actn) : Prop :=
  ∃ o g1 g2, ops[A.i]? = some o ∧ isSel o.op = false ∧ dstOk o.dst N = true ∧ EqOk g2.E ∧ (∀ r ∈ g1.recs, r.Ok P w0) ∧ (∃ l, recs0 = l ++ g1.recs) ∧ Way P γ ops.toList o A.i g1 g2 ∧ g2.acts = A :: g1.acts

def Agr (n : Nat) (D : Nat → Prop) (γ0 γ : Nat → Nat) : Prop := (∀ i, n ≤ i → γ i = 0) ∧ ∀ i, D i → γ i = γ0 i

def within (k : Nat × Nat × Nat × Nat) (j : Nat) : Prop := k.2.1 ≤ j ∧ j < k.2.1 + k.2.2.1

/-- The middle of a region's run: the numbers in D are given. -/
structure Stg (P : Program) (ops : Array Oper) (w0 : World) (N : Nat) (recs0 : List Rec) (n : Nat) (D : Nat → Prop) (γ0 : Nat → Nat) (a : Act) (w : World) (x : (Nat → Nat) → X) (R : (Nat → Nat) → List Actn) (y : (Nat → Nat) → X)
    (ks : List (Nat × Nat × Nat × Nat)) (T : Actn → Actn → Prop) : Prop where
  base : Agr n D γ0 γ0
  mod : ∀ γ, Agr n D γ0 γ → Mod w0 N (x γ) a w
  run : ∀ γ, Agr n D γ0 γ → Run (x γ) (R γ) (y γ)
  org : ∀ γ, Agr n D γ0 γ → ∀ A ∈ R γ, Org P ops w0 N recs0 γ A
  keys : ∀ γ, Agr n D γ0 γ → (R γ).map keyOf = ks
  pw : ∀ γ, Agr n D γ0 γ → (R γ).Pairwise T
  free : ∀ k ∈ ks, ∀ j, within k j → ¬ D j ∧ j < n
  disj : ks.Pairwise (fun k k' => ∀ j, within k j → ¬ within k' j)

theorem suffix_eq {α : Type} {l l1 l2 s1 s2 : List α} (h1 : l = l1 ++ s1) (h2 : l = l2 ++ s2) (h : s1.length = s2.length) : s1 = s2 := by
  have h3 : l1 ++ s1 = l2 ++ s2 := h1.symm.trans h2
  have hl : l1.length = l2.length := by
    have := congrArg List.length h3
    simp only [List.length_append] at this
    omega
  exact (List.append_inj h3 hl).2

theorem stg_step {D : Nat → Prop} {γ0 : Nat → Nat} {a : Act} {w : World} {x : (Nat → Nat) → X} {l1 l2 : (Nat → Nat) → List Actn} {r : (Nat → Nat) → Actn} {y : (Nat → Nat) → X} {ks1 ks2 : List (Nat × Nat × Nat × Nat)} {kr : Nat × Nat × Nat × Nat} {T : Actn → Actn → Prop} {K : Act → World → Prop}
    (h : Stg P ops w0 N recs0 n D γ0 a w x (fun γ => l1 γ ++ r γ :: l2 γ) y (ks1 ++ kr :: ks2) T)
    (hlen : ∀ γ, Agr n D γ0 γ → (l1 γ).length = ks1.length)
    (hap : ∀ γ, Agr n D γ0 γ → ∀ b ∈ l1 γ, apart b (r γ) = true)
    (hK : ∀ D' γ0' a' w', Stg P ops w0 N recs0 n D' γ0' a' w' (fun γ => (r γ).app (x γ)) (fun γ => l1 γ ++ l2 γ) y (ks1 ++ ks2) T → K a' w') : wpOp P ops Q kr.1 K a w := by
  have hkey : ∀ γ, Agr n D γ0 γ → (l1 γ).map keyOf = ks1 ∧ keyOf (r γ) = kr ∧ (l2 γ).map keyOf = ks2 := fun γ hγ => by
    have := h.keys γ hγ
    simp only [List.map_append, List.map_cons] at this
    obtain ⟨e1, e2⟩ := List.append_inj this (by rw [List.length_map]; exact hlen γ hγ)
    injection e2 with e2 e3
    exact ⟨e1, e2, e3⟩
  have hpre : ∀ γ, Agr n D γ0 γ → (r γ).Pre (x γ) ∧ Run ((r γ).app (x γ)) (l1 γ ++ l2 γ) (y γ) := fun γ hγ => Run.move _ _ _ _ _ (h.run γ hγ) (hap γ hγ)
  have horg : ∀ γ, Agr n D γ0 γ → Org P ops w0 N recs0 γ (r γ) := fun γ hγ => h.org γ hγ _ (by simp)
  have hfree := h.free kr (by simp)
  -- the new stage, whatever the numbers
  have next : ∀ (γ1 : Nat → Nat) (a' : Act) (w' : World), (∀ j, ¬ within kr j → γ1 j = γ0 j) →
      (∀ γ, Agr n (fun j => D j ∨ within kr j) γ1 γ → Mod w0 N ((r γ).app (x γ)) a' w') →
      Stg P ops w0 N recs0 n (fun j => D j ∨ within kr j) γ1 a' w' (fun γ => (r γ).app (x γ)) (fun γ => l1 γ ++ l2 γ) y (ks1 ++ ks2) T := by
    intro γ1 a' w' hγ1 hmod
    have hsub : ∀ γ, Agr n (fun j => D j ∨ within kr j) γ1 γ → Agr n D γ0 γ := fun γ hγ =>
      ⟨hγ.1, fun i hi => by rw [hγ.2 i (.inl hi), hγ1 i (fun hw => (hfree i hw).1 hi)]⟩
    refine ⟨⟨fun i hi => ?_, fun i _ => rfl⟩, hmod, fun γ hγ => (hpre γ (hsub γ hγ)).2, fun γ hγ A hA => ?_, fun γ hγ => ?_, fun γ hγ => ?_, fun k hk j hj => ?_, ?_⟩
    · rw [hγ1 i (fun hw => by have := (hfree i hw).2; omega)]
      exact h.base.1 i hi
    · refine h.org γ (hsub γ hγ) A ?_
      simp only [List.mem_append, List.mem_cons] at hA ⊢
      rcases hA with hA | hA
      · exact .inl hA
      · exact .inr (.inr hA)
    · obtain ⟨e1, _, e3⟩ := hkey γ (hsub γ hγ)
      rw [List.map_append, e1, e3]
    · exact (h.pw γ (hsub γ hγ)).sublist ((List.Sublist.refl (l1 γ)).append (List.sublist_cons_self _ _))
    · have hk' : k ∈ ks1 ++ kr :: ks2 := by
        simp only [List.mem_append, List.mem_cons] at hk ⊢
        rcases hk with hk | hk
        · exact .inl hk
        · exact .inr (.inr hk)
      obtain ⟨q1, q2⟩ := h.free k hk' j hj
      refine ⟨fun hor => ?_, q2⟩
      rcases hor with hor | hor
      · exact q1 hor
      · have hd := h.disj
        rw [List.pairwise_append, List.pairwise_cons] at hd
        simp only [List.mem_append] at hk
        rcases hk with hk | hk
        · exact hd.2.2 k hk kr (by simp) j hj hor
        · exact hd.2.1.1 k hk j hor hj
    · exact h.disj.sublist ((List.Sublist.refl ks1).append (List.sublist_cons_self _ _))
  obtain ⟨o, g1, g2, ho, hsel, hdst, hE, hrec, ⟨lr, hlr⟩, hway, hacts⟩ := horg γ0 h.base
  have hi : (r γ0).i = kr.1 := by rw [← (hkey γ0 h.base).2.1]; rfl
  have hal : ∀ γ, Agr n D γ0 γ → (r γ).al = (kr.2.1, kr.2.2.1) := fun γ hγ => by rw [← (hkey γ hγ).2.1]; rfl
  have hrc : ∀ γ, Agr n D γ0 γ → (r γ).rc = kr.2.2.2 := fun γ hγ => by rw [← (hkey γ hγ).2.1]; rfl
  have hii : ∀ γ, Agr n D γ0 γ → (r γ).i = kr.1 := fun γ hγ => by rw [← (hkey γ hγ).2.1]; rfl
  rw [hi] at ho
  by_cases hc : kr.2.2.2 % 2 = 1 ∨ kr.2.2.2 = 0
  · -- no call
    let γ1 : Nat → Nat := fun j => if kr.2.1 ≤ j ∧ j < kr.2.1 + kr.2.2.1 then w.heap.size + (j - kr.2.1) else γ0 j
    have hγ1 : ∀ j, ¬ within kr j → γ1 j = γ0 j := fun j hj => if_neg hj
    have hγ1' : ∀ j, within kr j → γ1 j = w.heap.size + (j - kr.2.1) := fun j hj => if_pos hj
    have key : ∀ γ, Agr n (fun j => D j ∨ within kr j) γ1 γ → ∃ v w', Real P ops o a w v w' ∧ Mod w0 N ((r γ).app (x γ)) (a.put o.dst v) w' := by
      intro γ hγ
      have hγ0 : Agr n D γ0 γ := ⟨hγ.1, fun i hi => by rw [hγ.2 i (.inl hi), hγ1 i (fun hw => (hfree i hw).1 hi)]⟩
      obtain ⟨o', g1', g2', ho', hsel', hdst', hE', hrec', _, hway', hacts'⟩ := horg γ hγ0
      rw [hii γ hγ0] at ho'
      rw [ho] at ho'
      cases ho'
      refine way_real hsel hdst' hE' hrec' hway' hacts' (by rw [hrc γ hγ0]; exact hc) (h.mod γ hγ0) (hpre γ hγ0).1 (fun q hq => ?_)
      rw [hal γ hγ0] at hq ⊢
      dsimp only at hq ⊢
      have hwi : within kr (kr.2.1 + q) := ⟨by omega, by omega⟩
      rw [hγ.2 _ (.inr hwi), hγ1' _ hwi]
      omega
    have hb1 : Agr n (fun j => D j ∨ within kr j) γ1 γ1 := ⟨fun i hi => by rw [hγ1 i (fun hw => by have := (hfree i hw).2; omega)]; exact h.base.1 i hi, fun _ _ => rfl⟩
    obtain ⟨v, w', hreal, _⟩ := key γ1 hb1
    refine hreal.wp ho (hK _ γ1 _ _ (next γ1 _ _ hγ1 (fun γ hγ => ?_)))
    obtain ⟨v2, w2, hreal2, hm2⟩ := key γ hγ
    obtain ⟨rfl, rfl⟩ := hreal.uniq hreal2
    exact hm2
  · -- a call
    have hnc : ∀ γ, Agr n D γ0 γ → ¬ ((r γ).rc % 2 = 1 ∨ (r γ).rc = 0) := fun γ hγ => by rw [hrc γ hγ]; exact hc
    rcases way_call hsel hdst hE hway hacts (hnc γ0 h.base) with ⟨d, deep, need, s, k, val, upd, news, tag, recs, σ, hr1, hr2, hr3, hr4⟩ | ⟨f, args, need, k, val, news, tag, recs, hr1, hr2, hr3, hr4⟩
    · obtain ⟨hwant, hrun, hreal, hneed, hdiff, _⟩ := hr4 _ a w (h.mod γ0 h.base) (hpre γ0 h.base).1
      have hkk : k = kr.2.2.1 ∧ g1.n = kr.2.1 := by
        have := hal γ0 h.base
        rw [hr3] at this
        injection this with e1 e2
        exact ⟨e2, e1⟩
      have hok : Rec.Ok P w0 (.eff d deep need s k val upd news tag) := hrec _ (by rw [hr1]; simp)
      have heff := hok _ w (h.mod γ0 h.base).below hneed hdiff
      have hfin : ∀ (v : Value) (w2 : World), (∃ δ : Nat → Nat, (∀ q, k ≤ q → δ q = 0) ∧ v = val σ δ ∧ Done w w2 (need σ) (upd σ δ) (news σ δ)) → K (a.put o.dst v) w2 := by
        rintro v w2 ⟨δ, hz, rfl, hdone⟩
        let γ1 : Nat → Nat := fun j => if kr.2.1 ≤ j ∧ j < kr.2.1 + kr.2.2.1 then δ (j - kr.2.1) else γ0 j
        have hγ1 : ∀ j, ¬ within kr j → γ1 j = γ0 j := fun j hj => if_neg hj
        have hγ1' : ∀ j, within kr j → γ1 j = δ (j - kr.2.1) := fun j hj => if_pos hj
        refine hK _ γ1 _ _ (next γ1 _ _ hγ1 (fun γ hγ => ?_))
        have hγ0 : Agr n D γ0 γ := ⟨hγ.1, fun i hi => by rw [hγ.2 i (.inl hi), hγ1 i (fun hw => (hfree i hw).1 hi)]⟩
        obtain ⟨o', g1', g2', ho', hsel', hdst', hE', hrec', ⟨lr', hlr'⟩, hway', hacts'⟩ := horg γ hγ0
        rw [hii γ hγ0] at ho'
        rw [ho] at ho'
        cases ho'
        rcases way_call hsel hdst' hE' hway' hacts' (hnc γ hγ0) with ⟨d', deep', need', s', k', val', upd', news', tag', recs', σ', hr1', hr2', hr3', hr4'⟩ | ⟨f', args', need', k', val', news', tag', recs', hr1', hr2', hr3', hr4'⟩
        · have hsame : g1.recs = g1'.recs := suffix_eq hlr hlr' (by
            have e1 := hr2
            have e2 := hr2'
            rw [hrc γ0 h.base] at e1
            rw [hrc γ hγ0] at e2
            omega)
          rw [hr1, hr1'] at hsame
          injection hsame with hsame _
          injection hsame with _ hdp hnd hs hk1 hv1 hu1 hn1 _
          subst hdp
          subst hk1
          subst hv1
          subst hu1
          subst hn1
          subst hnd
          subst hs
          obtain ⟨_, _, hreal', _, _, hmod⟩ := hr4' _ a w (h.mod γ hγ0) (hpre γ hγ0).1
          rw [← hreal] at hreal'
          subst hreal'
          have hn' : g1'.n = kr.2.1 := by
            have := hal γ hγ0
            rw [hr3'] at this
            injection this with e1 e2
          refine hmod δ w2 (fun q => ?_) hdone
          split
          · rename_i hq
            have hwi : within kr (kr.2.1 + q) := ⟨by omega, by omega⟩
            rw [hn', hγ.2 _ (.inr hwi), hγ1' _ hwi]
            congr 1
            omega
          · exact (hz q (by omega)).symm
        · have hsame : g1.recs = g1'.recs := suffix_eq hlr hlr' (by
            have e1 := hr2
            have e2 := hr2'
            rw [hrc γ0 h.base] at e1
            rw [hrc γ hγ0] at e2
            omega)
          rw [hr1, hr1'] at hsame
          injection hsame with hsame _
          cases hsame
      unfold wpOp
      rw [ho]
      simp only [hwant, if_true]
      left
      unfold Oper.wp
      rcases heff with ⟨v, w2, hr, hv⟩ | ⟨w2, hr, hv⟩ | ⟨f, args, hr, hc⟩
      · rw [hrun, hr]
        exact hfin v w2 hv
      · rw [hrun, hr]
        exact hfin undef w2 hv
      · rw [hrun, hr]
        show Calls P f args w _
        refine hc.mono ?_
        rintro e w2 ⟨v, rfl, hv⟩
        exact hfin v w2 hv
    obtain ⟨hwant, hrun, hneed, _⟩ := hr4 _ a w (h.mod γ0 h.base) (hpre γ0 h.base).1
    have hkk : k = kr.2.2.1 ∧ g1.n = kr.2.1 := by
      have := hal γ0 h.base
      rw [hr3] at this
      injection this with e1 e2
      exact ⟨e2, e1⟩
    have hok : Rec.Ok P w0 (.call f args need k val news tag) := hrec _ (by rw [hr1]; simp)
    have hcall := hok _ w (h.mod γ0 h.base).below hneed
    unfold wpOp
    rw [ho]
    simp only [hwant, if_true]
    left
    unfold Oper.wp
    rw [hrun]
    show Calls P f (args (addr g1.st.hp)).toArray w _
    refine hcall.mono ?_
    rintro e w2 ⟨δ, hz, rfl, hb, hnews, hpw⟩
    show K (a.put o.dst (val δ)) w2
    let γ1 : Nat → Nat := fun j => if kr.2.1 ≤ j ∧ j < kr.2.1 + kr.2.2.1 then δ (j - kr.2.1) else γ0 j
    have hγ1 : ∀ j, ¬ within kr j → γ1 j = γ0 j := fun j hj => if_neg hj
    have hγ1' : ∀ j, within kr j → γ1 j = δ (j - kr.2.1) := fun j hj => if_pos hj
    refine hK _ γ1 _ _ (next γ1 _ _ hγ1 (fun γ hγ => ?_))
    have hγ0 : Agr n D γ0 γ := ⟨hγ.1, fun i hi => by rw [hγ.2 i (.inl hi), hγ1 i (fun hw => (hfree i hw).1 hi)]⟩
    obtain ⟨o', g1', g2', ho', hsel', hdst', hE', hrec', ⟨lr', hlr'⟩, hway', hacts'⟩ := horg γ hγ0
    rw [hii γ hγ0] at ho'
    rw [ho] at ho'
    cases ho'
    obtain ⟨f', args', need', k', val', news', tag', recs', hr1', hr2', hr3', hr4'⟩ := (way_call hsel hdst' hE' hway' hacts' (hnc γ hγ0)).resolve_left (by
      rintro ⟨d', deep', need', s', k', val', upd', news', tag', recs', σ', hr1', hr2', _⟩
      have hsame : g1.recs = g1'.recs := suffix_eq hlr hlr' (by
        have e1 := hr2
        have e2 := hr2'
        rw [hrc γ0 h.base] at e1
        rw [hrc γ hγ0] at e2
        omega)
      rw [hr1, hr1'] at hsame
      injection hsame with hsame _
      cases hsame)
    have hsame : g1.recs = g1'.recs := suffix_eq hlr hlr' (by
      have e1 := hr2
      have e2 := hr2'
      rw [hrc γ0 h.base] at e1
      rw [hrc γ hγ0] at e2
      omega)
    rw [hr1, hr1'] at hsame
    injection hsame with hsame _
    injection hsame with _ _ _ hk1 hv1 hn1 _
    subst hk1
    subst hv1
    subst hn1
    obtain ⟨_, _, _, hmod⟩ := hr4' _ a w (h.mod γ hγ0) (hpre γ hγ0).1
    have hn' : g1'.n = kr.2.1 := by
      have := hal γ hγ0
      rw [hr3'] at this
      injection this with e1 e2
    refine hmod δ w2 (fun q => ?_) hb hnews hpw
    split
    · rename_i hq
      have hwi : within kr (kr.2.1 + q) := ⟨by omega, by omega⟩
      rw [hn', hγ.2 _ (.inr hwi), hγ1' _ hwi]
      congr 1
      omega
    · exact (hz q (by omega)).symm

/-- The operations in the text's order. -/
theorem stg_ops {y : (Nat → Nat) → X} {T : Actn → Actn → Prop} (hQ : ∀ γ a w, (∀ i, n ≤ i → γ i = 0) → Mod w0 N (y γ) a w → Q .normal a w) :
    ∀ (ks : List (Nat × Nat × Nat × Nat)) (D : Nat → Prop) (γ0 : Nat → Nat) (a : Act) (w : World) (x : (Nat → Nat) → X) (R : (Nat → Nat) → List Actn),
      Stg P ops w0 N recs0 n D γ0 a w x R y ks T → wpOps P ops Q (ks.map (·.1)) a w
  | [], D, γ0, a, w, x, R, h => by
    have h1 := h.keys γ0 h.base
    have h2 : R γ0 = [] := by simpa using h1
    have h3 := h.run γ0 h.base
    rw [h2] at h3
    have h4 : x γ0 = y γ0 := h3
    exact hQ γ0 a w h.base.1 (h4 ▸ h.mod γ0 h.base)
  | kr :: ks, D, γ0, a, w, x, R, h => by
    rw [List.map_cons, wpOps_cons]
    have hne : ∀ γ, Agr n D γ0 γ → R γ = ((R γ).head?.getD ⟨0, [], none, [], [], (0, 0), 0⟩) :: (R γ).tail := fun γ hγ => by
      have := h.keys γ hγ
      cases hR : R γ with
      | nil => rw [hR] at this; cases this
      | cons A l => rfl
    have h' : Stg P ops w0 N recs0 n D γ0 a w x (fun γ => [] ++ ((R γ).head?.getD ⟨0, [], none, [], [], (0, 0), 0⟩) :: (R γ).tail) y ([] ++ kr :: ks) T :=
      ⟨h.base, h.mod, fun γ hγ => by rw [List.nil_append, ← hne γ hγ]; exact h.run γ hγ, fun γ hγ => by rw [List.nil_append, ← hne γ hγ]; exact h.org γ hγ, fun γ hγ => by rw [List.nil_append, ← hne γ hγ]; exact h.keys γ hγ,
        fun γ hγ => by rw [List.nil_append, ← hne γ hγ]; exact h.pw γ hγ, h.free, h.disj⟩
    exact stg_step h' (fun γ _ => rfl) (fun γ _ b hb => by cases hb) (fun D' γ0' a' w' h2 => stg_ops hQ ks D' γ0' a' w' _ _ h2)

/-- What is asked of two actions of which the first stands ahead in the text. -/
def Ordered (ops : Array Oper) (b r : Actn) : Prop :=
  b.i < r.i ∧ (apart b r = true ∨ ∃ o, ops[r.i]? = some o ∧ ∃ e ∈ o.after, Region.binds .any e = true ∧ e.on = b.i)

theorem ready_spec {listed : Array Bool} {i : Nat} (h : i ∈ Region.ready .any ops listed) : ∃ o, ops[i]? = some o ∧ listed.getD i true = false ∧ ∀ e ∈ o.after, Region.binds .any e = true → listed.getD e.on false = true := by
  unfold Region.ready at h
  rw [List.mem_filter] at h
  obtain ⟨h1, h2⟩ := h
  simp only [Bool.and_eq_true, Bool.not_eq_true'] at h2
  obtain ⟨h2, h3⟩ := h2
  cases ho : ops[i]? with
  | none => rw [ho] at h3; simp at h3
  | some o =>
    refine ⟨o, rfl, h2, fun e he hb => ?_⟩
    rw [ho] at h3
    simp only [Option.map_some, Option.getD_some, Array.all_eq_true_iff_forall_mem] at h3
    have := h3 e he
    simpa [hb] using this

theorem ready_mk {listed : Array Bool} {i : Nat} {o : Oper} (ho : ops[i]? = some o) (h1 : listed.getD i true = false) (h2 : ∀ e ∈ o.after, Region.binds .any e = true → listed.getD e.on false = true) : i ∈ Region.ready .any ops listed := by
  unfold Region.ready
  rw [List.mem_filter]
  have hi : i < ops.size := by
    rcases Nat.lt_or_ge i ops.size with hlt | hge
    · exact hlt
    · rw [Array.getElem?_eq_none hge] at ho; cases ho
  refine ⟨by simpa using hi, ?_⟩
  rw [ho, h1]
  simp only [Option.map_some, Option.getD_some, Bool.not_false, Bool.true_and, Array.all_eq_true_iff_forall_mem]
  intro e he
  cases hb : Region.binds .any e with
  | false => rfl
  | true => simpa using h2 e he hb

/-- The operations in whatever order the edges let. -/
theorem stg_any {y : (Nat → Nat) → X} (hed : ∀ (i : Nat) (o : Oper), ops[i]? = some o → ∀ e ∈ o.after, Region.binds .any e = true → e.on < i) (hQ : ∀ γ a w, (∀ i, n ≤ i → γ i = 0) → Mod w0 N (y γ) a w → Q .normal a w) :
    ∀ (fuel : Nat) (ks : List (Nat × Nat × Nat × Nat)) (D : Nat → Prop) (γ0 : Nat → Nat) (a : Act) (w : World) (x : (Nat → Nat) → X) (R : (Nat → Nat) → List Actn) (listed : Array Bool),
      ks.length = fuel → listed.size = ops.size → (∀ j, j < ops.size → (listed.getD j true = false ↔ j ∈ ks.map (·.1))) → (∀ j ∈ ks.map (·.1), j < ops.size) → (ks.map (·.1)).Pairwise (· < ·) →
      Stg P ops w0 N recs0 n D γ0 a w x R y ks (Ordered ops) → wpAny P .any ops Q fuel listed a w := by
  intro fuel
  induction fuel with
  | zero =>
    intro ks D γ0 a w x R listed hf hls hl hlt hso h
    have hk : ks = [] := List.eq_nil_of_length_eq_zero hf
    subst hk
    refine ⟨?_, ?_⟩
    · apply List.eq_nil_iff_forall_not_mem.2
      intro i hi
      obtain ⟨o, ho, h1, _⟩ := ready_spec hi
      have hi' : i < ops.size := by
        rcases Nat.lt_or_ge i ops.size with hlt | hge
        · exact hlt
        · rw [Array.getElem?_eq_none hge] at ho; cases ho
      have := (hl i hi').1 h1
      simp at this
    · exact stg_ops hQ [] D γ0 a w x R h
  | succ fuel ih =>
    intro ks D γ0 a w x R listed hf hls hl hlt hso h
    have getD_eq : ∀ j, j < ops.size → listed.getD j true = listed.getD j false := fun j hj => by
      simp [Array.getD_eq_getD_getElem?, Array.getElem?_eq_getElem (show j < listed.size by omega)]
    refine ⟨fun hnil => ?_, fun i hi => ?_⟩
    · exfalso
      cases ks with
      | nil => cases hf
      | cons k0 ks =>
        have hk0 : k0.1 < ops.size := hlt k0.1 (by simp)
        have hmem : k0.1 ∈ Region.ready .any ops listed := by
          refine ready_mk (Array.getElem?_eq_getElem hk0) ((hl k0.1 hk0).2 (by simp)) (fun e he hbe => ?_)
          have hlt' := hed k0.1 _ (Array.getElem?_eq_getElem hk0) e he hbe
          rw [← getD_eq e.on (by omega)]
          cases hb : listed.getD e.on true with
          | true => rfl
          | false =>
            have := (hl e.on (by omega)).1 hb
            rw [List.map_cons, List.mem_cons] at this
            rw [List.map_cons, List.pairwise_cons] at hso
            rcases this with this | this
            · omega
            · have := hso.1 _ this
              omega
        rw [hnil] at hmem
        cases hmem
    · obtain ⟨o, ho, hl1, hl2⟩ := ready_spec hi
      have hi' : i < ops.size := by
        rcases Nat.lt_or_ge i ops.size with hlt | hge
        · exact hlt
        · rw [Array.getElem?_eq_none hge] at ho; cases ho
      have hik := (hl i hi').1 hl1
      rw [List.mem_map] at hik
      obtain ⟨kr, hkr, hkri⟩ := hik
      obtain ⟨ks1, ks2, rfl⟩ := List.append_of_mem hkr
      have hspl : ∀ γ, Agr n D γ0 γ → R γ = (R γ).take ks1.length ++ ((R γ)[ks1.length]?.getD ⟨0, [], none, [], [], (0, 0), 0⟩) :: (R γ).drop (ks1.length + 1) := fun γ hγ => by
        have hll : ks1.length < (R γ).length := by
          have := congrArg List.length (h.keys γ hγ)
          simp only [List.length_map, List.length_append, List.length_cons] at this
          omega
        rw [List.getElem?_eq_getElem hll, Option.getD_some, ← List.drop_eq_getElem_cons hll, List.take_append_drop]
      have h' : Stg P ops w0 N recs0 n D γ0 a w x (fun γ => (R γ).take ks1.length ++ ((R γ)[ks1.length]?.getD ⟨0, [], none, [], [], (0, 0), 0⟩) :: (R γ).drop (ks1.length + 1)) y (ks1 ++ kr :: ks2) (Ordered ops) :=
        ⟨h.base, h.mod, fun γ hγ => by rw [← hspl γ hγ]; exact h.run γ hγ, fun γ hγ => by rw [← hspl γ hγ]; exact h.org γ hγ, fun γ hγ => by rw [← hspl γ hγ]; exact h.keys γ hγ,
          fun γ hγ => by rw [← hspl γ hγ]; exact h.pw γ hγ, h.free, h.disj⟩
      have hln : ∀ γ, Agr n D γ0 γ → ((R γ).take ks1.length).length = ks1.length := fun γ hγ => by
        have := congrArg List.length (h.keys γ hγ)
        simp only [List.length_map, List.length_append, List.length_cons] at this
        rw [List.length_take]
        omega
      rw [← hkri]
      refine stg_step h' hln (fun γ hγ b hb => ?_) (fun D' γ0' a' w' h2 => ?_)
      · have hp := h'.pw γ hγ
        rw [List.pairwise_append] at hp
        obtain ⟨hbi, hor⟩ := hp.2.2 b hb _ List.mem_cons_self
        rcases hor with hor | ⟨o', ho', e, he, hb1, hb2⟩
        · exact hor
        · exfalso
          have hri : ((R γ)[ks1.length]?.getD ⟨0, [], none, [], [], (0, 0), 0⟩).i = kr.1 := by
            have := h'.keys γ hγ
            simp only [List.map_append, List.map_cons] at this
            obtain ⟨_, e2⟩ := List.append_inj this (by rw [List.length_map]; exact hln γ hγ)
            injection e2 with e2 _
            rw [← e2]; rfl
          have hbk : b.i ∈ (ks1 ++ kr :: ks2).map (·.1) := by
            rw [← h.keys γ hγ, List.map_map]
            refine List.mem_map.2 ⟨b, ?_, rfl⟩
            exact List.mem_of_mem_take hb
          rw [hri, hkri, ho] at ho'
          cases ho'
          have h5 := hl2 e he hb1
          rw [hb2] at h5
          have hbl : b.i < ops.size := hlt _ hbk
          have h6 := (hl b.i hbl).2 hbk
          rw [getD_eq _ hbl, h5] at h6
          cases h6
      · refine ih (ks1 ++ ks2) D' γ0' a' w' _ _ (listed.setIfInBounds kr.1 true) ?_ (by simpa using hls) (fun j hj => ?_) (fun j hj => ?_) ?_ h2
        · simp only [List.length_append, List.length_cons] at hf ⊢
          omega
        · have hnd : kr.1 ∉ (ks1 ++ ks2).map (·.1) := by
            rw [List.map_append, List.map_cons, List.pairwise_append, List.pairwise_cons] at hso
            rw [List.map_append, List.mem_append]
            rintro (hm | hm)
            · have := hso.2.2 _ hm kr.1 (by simp); omega
            · have := hso.2.1.1 _ hm; omega
          rw [Array.getD_eq_getD_getElem?, Array.getElem?_setIfInBounds]
          by_cases hjk : kr.1 = j
          · subst hjk
            rw [if_pos rfl, if_pos (by omega)]
            simp only [Option.getD_some]
            exact ⟨fun hh => (by cases hh), fun hh => absurd hh hnd⟩
          · rw [if_neg hjk, ← Array.getD_eq_getD_getElem?, hl j hj]
            simp only [List.map_append, List.map_cons, List.mem_append, List.mem_cons]
            constructor
            · rintro (hh | hh | hh)
              · exact .inl hh
              · exact absurd hh.symm hjk
              · exact .inr hh
            · rintro (hh | hh)
              · exact .inl hh
              · exact .inr (.inr hh)
        · refine hlt j ?_
          simp only [List.map_append, List.map_cons, List.mem_append, List.mem_cons] at hj ⊢
          rcases hj with hj | hj
          · exact .inl hj
          · exact .inr (.inr hj)
        · refine hso.sublist ?_
          simp only [List.map_append, List.map_cons]
          exact (List.Sublist.refl _).append (List.sublist_cons_self _ _)
end

end Go.Ex
