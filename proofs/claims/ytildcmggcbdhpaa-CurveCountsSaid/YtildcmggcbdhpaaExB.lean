/- One operation of the symbolic run tells the truth. No conditions. -/
import Derived.Test.YtildcmggcbdhpaaExA
namespace Go.Ex
open Go.RowKit

/-- A state as functions. -/
structure X where
  sl : Nat → Option Value
  hp : Nat → Option Ent

def toX (st : St) : X := ⟨fun t => slot st.fr t, fun k => st.hp[k]?⟩

def lookA {β : Type} : List (Nat × β) → Nat → Option β
  | [], _ => none
  | (j, e) :: l, k => if j = k then some e else lookA l k

def Actn.app (A : Actn) (x : X) : X :=
  ⟨fun t => match A.ws with | some (d, v) => if t = d then some v else x.sl t | none => x.sl t,
   fun k => match lookA A.wh k with | some e => some e | none => x.hp k⟩

def Actn.Pre (A : Actn) (x : X) : Prop := (∀ p ∈ A.rs, x.sl p.1 = some p.2) ∧ (∀ p ∈ A.rh, x.hp p.1 = some p.2)

def Out.exit_ : Out → Exit
  | .normal => .normal
  | .exit id => .exit id
  | .ret => .ret

structure Mod (w0 : World) (N : Nat) (x : X) (a : Act) (w : World) : Prop where
  defers : a.defers = []
  size : a.tmps.size = N
  slot : ∀ t v, x.sl t = some v → a.tmps[t]? = some v
  below : Below w0.heap.size w0 w
  hold : ∀ k e, x.hp k = some e → e.holds w
  own : ∀ k e, x.hp k = some e → e.own = true → w0.heap.size ≤ e.g
  diff : ∀ k k' e e', k ≠ k' → x.hp k = some e → x.hp k' = some e' → e.own = true → e.g ≠ e'.g

theorem lookA_mem {β : Type} : ∀ (l : List (Nat × β)) (k : Nat) (e : β), lookA l k = some e → (k, e) ∈ l
  | [], _, _, h => by cases h
  | (j, f) :: l, k, e, h => by
    simp only [lookA] at h
    split at h
    · rename_i hj
      cases h
      simp [hj]
    · exact List.mem_cons_of_mem _ (lookA_mem l k e h)

theorem lookA_none {β : Type} : ∀ (l : List (Nat × β)) (k : Nat), lookA l k = none → k ∉ l.map (·.1)
  | [], _, _ => by simp
  | (j, f) :: l, k, h => by
    simp only [lookA] at h
    split at h
    · cases h
    · rename_i hj
      simp only [List.map_cons, List.mem_cons, not_or]
      exact ⟨fun hh => hj hh.symm, lookA_none l k h⟩

theorem readSlots_spec : ∀ (fr : List (Option Value)) (ts : List Nat) (l : List (Nat × Value)), readSlots fr ts = some l → (∀ p ∈ l, slot fr p.1 = some p.2) ∧ l.map (·.1) = ts
  | _, [], l, h => by simp only [readSlots, Option.some.injEq] at h; subst h; simp
  | fr, t :: ts, l, h => by
    simp only [readSlots] at h
    split at h
    · rename_i v l' hv hl
      cases h
      obtain ⟨h1, h2⟩ := readSlots_spec fr ts l' hl
      refine ⟨fun p hp => ?_, by simp [h2]⟩
      rcases List.mem_cons.1 hp with rfl | hp
      · exact hv
      · exact h1 p hp
    · cases h

theorem readEnts_spec : ∀ (hp : List Ent) (js : List Nat) (l : List (Nat × Ent)), readEnts hp js = some l → (∀ p ∈ l, hp[p.1]? = some p.2) ∧ l.map (·.1) = js
  | _, [], l, h => by simp only [readEnts, Option.some.injEq] at h; subst h; simp
  | hp, t :: ts, l, h => by
    simp only [readEnts] at h
    split at h
    · rename_i v l' hv hl
      cases h
      obtain ⟨h1, h2⟩ := readEnts_spec hp ts l' hl
      refine ⟨fun p hp => ?_, by simp [h2]⟩
      rcases List.mem_cons.1 hp with rfl | hp
      · exact hv
      · exact h1 p hp
    · cases h

theorem slot_set (fr : List (Option Value)) (d : Nat) (v : Value) (t : Nat) (h : d < fr.length) : slot (fr.set d (some v)) t = if t = d then some v else slot fr t := by
  unfold slot
  rw [List.getElem?_set]
  by_cases ht : t = d
  · subst ht; simp [h]
  · rw [if_neg (fun hh => ht hh.symm), if_neg ht]

theorem slot_setSlot (fr : List (Option Value)) (d : Option Nat) (v : Value) (t : Nat) (h : dstOk d fr.length = true) :
    slot (setSlot fr d v) t = match d.map (·, v) with | some (d, v) => if t = d then some v else slot fr t | none => slot fr t := by
  cases d with
  | none => rfl
  | some d =>
    simp only [dstOk, Nat.blt_eq] at h
    exact slot_set fr d v t h

theorem length_setSlot (fr : List (Option Value)) (d : Option Nat) (v : Value) : (setSlot fr d v).length = fr.length := by
  cases d <;> simp [setSlot]

/-- What is put, put in the frame. -/
theorem put_slot {a : Act} {d : Option Nat} {v : Value} {N : Nat} (hs : a.tmps.size = N) (hd : dstOk d N = true) (x : Nat → Option Value)
    (h : ∀ t u, x t = some u → a.tmps[t]? = some u) :
    ∀ t u, (match d.map (·, v) with | some (d, v) => if t = d then some v else x t | none => x t) = some u → (a.put d v).tmps[t]? = some u := by
  intro t u hu
  cases d with
  | none => exact h t u hu
  | some d =>
    simp only [dstOk, Nat.blt_eq] at hd
    simp only [Option.map_some] at hu
    simp only [Act.put]
    rw [Array.getElem?_setIfInBounds]
    by_cases ht : t = d
    · subst ht
      rw [if_pos rfl, if_pos (by omega)]
      rw [if_pos rfl] at hu
      exact hu
    · rw [if_neg (fun hh => ht hh.symm)]
      rw [if_neg ht] at hu
      exact h t u hu

theorem put_size (a : Act) (d : Option Nat) (v : Value) : (a.put d v).tmps.size = a.tmps.size := by cases d <;> simp [Act.put]
theorem put_defers (a : Act) (d : Option Nat) (v : Value) : (a.put d v).defers = a.defers := by cases d <;> rfl

/-- What an operation really does, where it calls nothing. -/
def Real (P : Program) (ops : Array Oper) (o : Oper) (a : Act) (w : World) (v : Value) (w' : World) : Prop :=
  (Region.wanted o (yielded ops a.tmps) = false ∧ v = undef ∧ w' = w) ∨
  (Region.wanted o (yielded ops a.tmps) = true ∧ ((execOp a.eval o).run P w = .ok (.value v) w' ∨ ((execOp a.eval o).run P w = .ok .skip w' ∧ v = undef)))

theorem Real.uniq {P : Program} {ops : Array Oper} {o : Oper} {a : Act} {w w1 w2 : World} {v1 v2 : Value} (h1 : Real P ops o a w v1 w1) (h2 : Real P ops o a w v2 w2) : v1 = v2 ∧ w1 = w2 := by
  rcases h1 with ⟨a1, b1, c1⟩ | ⟨a1, b1⟩ <;> rcases h2 with ⟨a2, b2, c2⟩ | ⟨a2, b2⟩
  · exact ⟨by rw [b1, b2], by rw [c1, c2]⟩
  · rw [a1] at a2; cases a2
  · rw [a1] at a2; cases a2
  · rcases b1 with b1 | ⟨b1, c1⟩ <;> rcases b2 with b2 | ⟨b2, c2⟩ <;> rw [b1] at b2
    · injection b2 with b2 b3
      injection b2 with b2
      exact ⟨b2, b3⟩
    · injection b2 with b2 b3
      cases b2
    · injection b2 with b2 b3
      cases b2
    · injection b2 with b2 b3
      exact ⟨by rw [c1, c2], b3⟩

theorem Real.wp {P : Program} {ops : Array Oper} {o : Oper} {a : Act} {w w' : World} {v : Value} {i : Nat} {K : Act → World → Prop} {Q : Exit → Act → World → Prop}
    (ho : ops[i]? = some o) (h : Real P ops o a w v w') (hk : K (a.put o.dst v) w') : wpOp P ops Q i K a w := by
  unfold wpOp
  rw [ho]
  rcases h with ⟨h1, rfl, rfl⟩ | ⟨h1, h2⟩
  · simp only [h1]
    exact hk
  · simp only [h1, if_true]
    left
    unfold Oper.wp
    rcases h2 with h2 | ⟨h2, rfl⟩ <;> rw [h2] <;> exact hk

/-- What an operation has done to blocks that are known. -/
structure Done (w w' : World) (need upd : List (Nat × Ent)) (news : List Ent) : Prop where
  os : w'.os = w.os
  tape : w'.tape = w.tape
  output : w'.output = w.output
  size : w.heap.size ≤ w'.heap.size
  frame : ∀ b, b < w.heap.size → (∀ p ∈ need, p.1 ∈ upd.map (·.1) → p.2.g ≠ b) → w'.heap[b]? = w.heap[b]?
  upds : ∀ p ∈ upd, p.2.holds w' ∧ ∃ e0 : Ent, (p.1, e0) ∈ need ∧ e0.own = true ∧ (p.2.g = e0.g ∨ w.heap.size ≤ p.2.g)
  new : ∀ e ∈ news, e.holds w' ∧ w.heap.size ≤ e.g
  diff : ∀ p ∈ upd, ∀ q ∈ upd, p.1 ≠ q.1 → p.2.g ≠ q.2.g
  diffn : ∀ p ∈ upd, ∀ e ∈ news, p.2.g ≠ e.g
  pw : news.Pairwise (fun a b => a.g ≠ b.g)

/-- What comes of an operation, or of the call that it is. -/
def Eff (P : Program) (s : Sem Next) (w : World) (Φ : Value → World → Prop) : Prop :=
  (∃ v w', s.run P w = .ok (.value v) w' ∧ Φ v w') ∨ (∃ w', s.run P w = .ok .skip w' ∧ Φ undef w') ∨ (∃ f args, s.run P w = .ok (.enter f args) w ∧ Calls P f args w fun e w' => ∃ v, e = .returned v ∧ Φ v w')

/-- The promise of a record. -/
def Rec.Ok (P : Program) (w0 : World) : Rec → Prop
  | .call f args need k val news _ => ∀ (γ : Nat → Nat) (w : World), Below w0.heap.size w0 w → (∀ p ∈ need γ, p.2.holds w) →
      Calls P f (args γ).toArray w fun e w' => ∃ δ : Nat → Nat, (∀ q, k ≤ q → δ q = 0) ∧ e = .returned (val δ) ∧ Below w.heap.size w w' ∧
        (∀ e ∈ news δ, e.holds w' ∧ w.heap.size ≤ e.g) ∧ (news δ).Pairwise (fun a b => a.g ≠ b.g)
  | .fact _ need s v => ∀ (γ : Nat → Nat) (w : World), Below w0.heap.size w0 w → (∀ p ∈ need γ, p.2.holds w) → (s γ).run P w = .ok (.value v) w
  | .codeN c k pre post out => ∀ (gl : List Nat) (a : Act) (w : World), Mod w0 (pre gl).fr.length (toX (pre gl)) a w →
      (Code.loop c).wp P (fun e a' w' => ∃ δ : Nat → Nat, (∀ q, k ≤ q → δ q = 0) ∧ e = out.exit_ ∧ Mod w0 (pre gl).fr.length (toX (post gl δ)) a' w') a w
  | .eff _ _ need s k val upd news _ => ∀ (γ : Nat → Nat) (w : World), Below w0.heap.size w0 w → (∀ p ∈ need γ, p.2.holds w) → (∀ p ∈ need γ, ∀ q ∈ need γ, p.1 ≠ q.1 → p.2.own = true → p.2.g ≠ q.2.g) →
      Eff P (s γ) w fun v w' => ∃ δ : Nat → Nat, (∀ q, k ≤ q → δ q = 0) ∧ v = val γ δ ∧ Done w w' (need γ) (upd γ δ) (news γ δ)

theorem wants_spec {ops : Array Oper} {fr : List (Option Value)} {o : Oper} {b : Bool} {ds : List Nat} {a : Act} (h : wants ops.toList fr o = some (b, ds))
    (hs : ∀ d ∈ ds, ∀ v, slot fr d = some v → a.tmps[d]? = some v) : Region.wanted o (yielded ops a.tmps) = b := by
  unfold wants at h
  unfold Region.wanted
  cases hg : o.guard with
  | none =>
    simp only [hg] at h ⊢
    cases h
    rfl
  | some jw =>
    obtain ⟨j, want⟩ := jw
    simp only [hg] at h ⊢
    unfold yielded
    rw [Array.getElem?_toList] at h
    cases hd : (ops[j]?).bind (·.dst) with
    | none =>
      simp only [hd] at h
      cases h
      rfl
    | some d =>
      simp only [hd] at h
      cases hv : slot fr d with
      | none => simp only [hv] at h; cases h
      | some v =>
        simp only [hv] at h
        have hd' : d ∈ ds := by
          split at h
          · cases h
          · cases h; simp
          · cases h; simp
        have := hs d hd' v hv
        simp only [Option.bind_some, this]
        cases v <;> simp at h <;> (obtain ⟨rfl, rfl⟩ := h; first | rfl | (cases want <;> rfl) | (rename_i b'; cases b' <;> cases want <;> rfl))

theorem ev_congr {fr : List (Option Value)} {o : Oper} {a : Act} {rs : List (Nat × Value)} {ds : List Nat} (hsel : isSel o.op = false) (hr : readSlots fr (ds ++ tmpsOf o) = some rs)
    (h : ∀ p ∈ rs, a.tmps[p.1]? = some p.2) : execOp a.eval o = execOp (ev fr) o := by
  obtain ⟨h1, h2⟩ := readSlots_spec _ _ _ hr
  refine execOp_congr o (fun cs b he => ?_) (fun x hx => ?_)
  · rw [he] at hsel; cases hsel
  · cases x with
    | tmp t =>
      have ht : t ∈ rs.map (·.1) := by
        rw [h2]
        refine List.mem_append_right _ ?_
        unfold tmpsOf
        rw [List.mem_filterMap]
        exact ⟨.tmp t, by simpa using hx, rfl⟩
      rw [List.mem_map] at ht
      obtain ⟨p, hp, rfl⟩ := ht
      have e1 := h p hp
      have e2 := h1 p hp
      show a.tmps.getD p.1 undef = (slot fr p.1).getD undef
      rw [e2]
      simp [Array.getD_eq_getD_getElem?, e1]
    | _ => rfl

theorem number_look : ∀ (ns : List Ent) (n k : Nat), lookA (number n ns) k = if n ≤ k then ns[k - n]? else none
  | [], n, k => by simp [number, lookA]
  | e :: ns, n, k => by
    simp only [number, lookA]
    rw [number_look ns (n + 1) k]
    by_cases h : n = k
    · subst h; simp
    · rw [if_neg h]
      by_cases h1 : n + 1 ≤ k
      · rw [if_pos h1, if_pos (by omega), show k - n = (k - (n + 1)) + 1 by omega, List.getElem?_cons_succ]
      · rw [if_neg h1, if_neg (by omega)]

theorem eqs_ok : ∀ (need : List (Nat × Ent)) (hp : List Ent) (E : List (It × It)), EqOk (eqs need hp ++ E) → ∀ p ∈ need, hp[p.1]? = some p.2
  | [], _, _, _, p, hp => by cases hp
  | (j, e) :: need, hp, E, h, p, hm => by
    have h' : EqOk ((It.ent hp[j]?, It.ent (some e)) :: (eqs need hp ++ E)) := h
    have h1 := h'.cons
    rcases List.mem_cons.1 hm with rfl | hm
    · have := h1.1
      injection this
    · exact eqs_ok need hp E h1.2 p hm

variable {P : Program} {γ : Nat → Nat} {ops : Array Oper} {o : Oper} {i : Nat} {g g' : G} {w0 : World} {N : Nat}

/-- The ways that a step goes. -/
inductive Way (P : Program) (γ : Nat → Nat) (ops : List Oper) (o : Oper) (i : Nat) (g g' : G) : Prop where
  | off (ds : List Nat) (rs : List (Nat × Value)) (hw : wants ops g.st.fr o = some (false, ds)) (hr : readSlots g.st.fr ds = some rs)
      (h : g' = finish g o i rs undef .no g.st.hp g.n g.recs g.E [] [] 0)
  | on (ds : List Nat) (rs : List (Nat × Value)) (hw : wants ops g.st.fr o = some (true, ds)) (hr : readSlots g.st.fr (ds ++ tmpsOf o) = some rs) (nx : Next) (v : Value) (tag : Tag) (m : M)
      (ha : arun P γ (fun _ => tagOf g.st.tg (tmpsOf o)) (execOp (ev g.st.fr) o) ⟨g.st.hp, g.n, 0, g.E, [], []⟩ = some (nx, m)) (hn : nx = .value v ∨ (nx = .skip ∧ v = undef))
      (rh wh : List (Nat × Ent)) (h1 : readEnts g.st.hp m.rd = some rh) (h2 : readEnts m.hp m.wr = some wh)
      (h : g' = finish g o i rs v tag m.hp m.n g.recs m.E rh wh 0)
  | call (ds : List Nat) (rs : List (Nat × Value)) (hw : wants ops g.st.fr o = some (true, ds)) (hr : readSlots g.st.fr (ds ++ tmpsOf o) = some rs) (f f' : FuncId) (args : Array Value) (m : M)
      (args' : (Nat → Nat) → List Value) (need : (Nat → Nat) → List (Nat × Ent)) (k : Nat) (val : (Nat → Nat) → Value) (news : (Nat → Nat) → List Ent) (tag : Tag) (recs : List Rec)
      (ha : arun P γ (fun _ => tagOf g.st.tg (tmpsOf o)) (execOp (ev g.st.fr) o) ⟨g.st.hp, g.n, 0, g.E, [], []⟩ = some (.enter f args, m)) (hwr : m.wr = []) (hrd : m.rd = [])
      (hrec : g.recs = .call f' args' need k val news tag :: recs)
      (h : g' = finish g o i rs (val fun q => if q < k then γ (g.n + q) else 0) tag (g.st.hp ++ news fun q => if q < k then γ (g.n + q) else 0) (g.n + k) recs
          ((.nat f, .nat f') :: (.vals args.toList, .vals (args' (addr g.st.hp))) :: (eqs (need (addr g.st.hp)) g.st.hp ++ m.E)) (need (addr g.st.hp)) (number g.st.hp.length (news fun q => if q < k then γ (g.n + q) else 0)) (2 * g.recs.length + 2))
  | fact (ds : List Nat) (rs : List (Nat × Value)) (hw : wants ops g.st.fr o = some (true, ds)) (hr : readSlots g.st.fr (ds ++ tmpsOf o) = some rs) (d : Nat) (need : (Nat → Nat) → List (Nat × Ent)) (s : (Nat → Nat) → Sem Next) (v : Value) (recs : List Rec)
      (hrec : g.recs = .fact d need s v :: recs)
      (h : g' = finish g o i rs v .no g.st.hp g.n recs ((.sem (execOp (ev g.st.fr) o), .sem (s (addr g.st.hp))) :: (eqs (need (addr g.st.hp)) g.st.hp ++ g.E)) (need (addr g.st.hp)) [] (2 * g.recs.length + 1))
  | eff (ds : List Nat) (rs : List (Nat × Value)) (hw : wants ops g.st.fr o = some (true, ds)) (hr : readSlots g.st.fr (ds ++ tmpsOf o) = some rs) (d : Option Nat) (deep : List Nat) (need : (Nat → Nat) → List (Nat × Ent)) (s : (Nat → Nat) → Sem Next) (k : Nat)
      (val : (Nat → Nat) → (Nat → Nat) → Value) (upd : (Nat → Nat) → (Nat → Nat) → List (Nat × Ent)) (news : (Nat → Nat) → (Nat → Nat) → List Ent) (tag : Tag) (recs : List Rec)
      (hrec : g.recs = .eff d deep need s k val upd news tag :: recs) (δ : Nat → Nat) (hδ : δ = fun q => if q < k then γ (g.n + q) else 0) (ls : List (Nat × Nat × Ent)) (hls : deepEnts g.st (tmpsOf o) deep = some ls)
      (σ : Nat → Nat) (hσ : σ = opσ (slot g.st.fr) (tmpsOf o) ls) (hu : ∀ p ∈ upd σ δ, p.1 < g.st.hp.length)
      (h : g' = finish g o i rs (val σ δ) tag (setAll g.st.hp (upd σ δ) ++ news σ δ) (g.n + k) recs ((.sem (execOp (ev g.st.fr) o), .sem (s σ)) :: (ls.map (fun p => (.nat p.2.2.g, .nat (opA (slot g.st.fr) (tmpsOf o) 0 p.1))) ++ (eqs (need σ) g.st.hp ++ g.E)))
          (need σ ++ ls.map (fun p => (p.2.1, p.2.2))) (upd σ δ ++ number g.st.hp.length (news σ δ)) (2 * g.recs.length + 2))

theorem run1_way {ds : List Nat} {rs : List (Nat × Value)} (hw : wants ops.toList g.st.fr o = some (true, ds)) (hr : readSlots g.st.fr (ds ++ tmpsOf o) = some rs) (h : run1 P γ o i rs g = some g') : Way P γ ops.toList o i g g' := by
  unfold run1 at h
  dsimp only at h
  split at h
  · cases h
  · rename_i nx m ha
    split at h
    · rename_i v
      split at h
      · rename_i rh wh h1 h2
        cases h
        exact .on ds rs hw hr _ v _ m ha (.inl rfl) rh wh h1 h2 rfl
      · cases h
    · split at h
      · rename_i rh wh h1 h2
        cases h
        exact .on ds rs hw hr _ undef _ m ha (.inr ⟨rfl, rfl⟩) rh wh h1 h2 rfl
      · cases h
    · rename_i f args
      split at h
      · rename_i f' args' need k val news tag recs hwr hrd hrec
        cases h
        exact .call ds rs hw hr f f' args m args' need k val news tag recs ha hwr hrd hrec rfl
      · cases h
    · cases h

theorem step1_way (h : step1 P γ ops.toList o i g = some g') : isSel o.op = false ∧ dstOk o.dst g.st.fr.length = true ∧ Way P γ ops.toList o i g g' := by
  unfold step1 at h
  split at h
  · cases h
  · rename_i hsd
    simp only [Bool.or_eq_true, Bool.not_eq_true', not_or, Bool.not_eq_true, Bool.not_eq_false] at hsd
    refine ⟨hsd.1, hsd.2, ?_⟩
    split at h
    · cases h
    · rename_i ds hw
      split at h
      · rename_i rs hr
        cases h
        exact .off ds rs hw hr rfl
      · cases h
    · rename_i ds hw
      split at h
      · cases h
      · rename_i rs hr
        split at h
        · rename_i d need s v recs hrec
          split at h
          · split at h
            · cases h
              exact .fact ds rs hw hr d need s v recs hrec rfl
            · exact run1_way hw hr h
          · exact run1_way hw hr h
        · rename_i d deep need s k val upd news tag recs hrec
          split at h
          · split at h
            · cases h
            · rename_i ls hls
              dsimp only at h
              split at h
              · rename_i hu
                cases h
                refine .eff ds rs hw hr d deep need s k val upd news tag recs hrec _ rfl ls hls _ rfl (fun p hp => ?_) rfl
                rw [List.all_eq_true] at hu
                simpa using hu p hp
              · cases h
          · exact run1_way hw hr h
        · exact run1_way hw hr h

/-- What every step is, by its looks. -/
structure Lex (g g' : G) (A : Actn) (o : Oper) (i : Nat) : Prop where
  acts : g'.acts = A :: g.acts
  i : A.i = i
  al : A.al = (g.n, g'.n - g.n)
  n : g.n ≤ g'.n
  len : g'.st.fr.length = g.st.fr.length
  E : ∃ l, g'.E = l ++ g.E
  recs : ∃ l, g.recs = l ++ g'.recs
  pre : A.Pre (toX g.st)
  app : A.app (toX g.st) = toX g'.st
  ws : ∃ v, A.ws = o.dst.map (·, v)

theorem X.ext' {x y : X} (h1 : ∀ t, x.sl t = y.sl t) (h2 : ∀ k, x.hp k = y.hp k) : x = y := by
  obtain ⟨a, b⟩ := x
  obtain ⟨c, d⟩ := y
  have e1 : a = c := funext h1
  have e2 : b = d := funext h2
  rw [e1, e2]

theorem finish_app (hd : dstOk o.dst g.st.fr.length = true) (rs : List (Nat × Value)) (v : Value) (tag : Tag) (hp : List Ent) (n : Nat) (recs : List Rec) (E : List (It × It)) (rh wh : List (Nat × Ent)) (rc : Nat)
    (hh : ∀ k, (match lookA wh k with | some e => some e | none => g.st.hp[k]?) = hp[k]?) :
    Actn.app ⟨i, rs, o.dst.map (·, v), rh, wh, (g.n, n - g.n), rc⟩ (toX g.st) = toX (finish g o i rs v tag hp n recs E rh wh rc).st := by
  refine X.ext' (fun t => ?_) (fun k => ?_)
  · exact (slot_setSlot g.st.fr o.dst v t hd).symm
  · exact hh k

theorem deepEnts_spec (st : St) (ts : List Nat) : ∀ (l : List Nat) (ls : List (Nat × Nat × Ent)), deepEnts st ts l = some ls → (∀ p ∈ ls, st.hp[p.2.1]? = some p.2.2) ∧ ls.map (·.1) = l
  | [], ls, h => by simp only [deepEnts, Option.some.injEq] at h; subst h; simp
  | i :: l, ls, h => by
    simp only [deepEnts] at h
    split at h
    · rename_i j _
      split at h
      · rename_i e r he hr
        cases h
        obtain ⟨h1, h2⟩ := deepEnts_spec st ts l r hr
        refine ⟨fun p hp => ?_, by simp [h2]⟩
        rcases List.mem_cons.1 hp with rfl | hp
        · exact he
        · exact h1 p hp
      · cases h
    · cases h

/-- Where the operands really lie. -/
def realσ (a : Act) (w : World) (ts deep : List Nat) (n : Nat) : Nat :=
  if n % 10000 < 100 then opA (fun t => a.tmps[t]?) ts (n / 10000) (n % 10000) else
  if n % 10000 / 100 - 1 ∈ deep then
    match w.heap[opA (fun t => a.tmps[t]?) ts 0 (n % 10000 / 100 - 1)]? with
    | some (.cells cs _ _) => kf (n / 10000) cs[n % 100]?
    | _ => 0
  else 0

theorem opσ_real {sl : Nat → Option Value} {ts deep : List Nat} {a : Act} {w : World} {ls : List (Nat × Nat × Ent)} (h1 : ∀ t ∈ ts, ∃ v, sl t = some v ∧ a.tmps[t]? = some v) (h2 : ls.map (·.1) = deep)
    (h3 : ∀ p ∈ ls, p.2.2.holds w ∧ p.2.2.g = opA sl ts 0 p.1) : opσ sl ts ls = realσ a w ts deep := by
  have hA : ∀ q i, opA sl ts q i = opA (fun t => a.tmps[t]?) ts q i := fun q i => by
    unfold opA
    cases hi : ts[i]? with
    | none => rfl
    | some t =>
      obtain ⟨v, e1, e2⟩ := h1 t (List.mem_of_getElem? hi)
      simp only [Option.bind_some, e1, e2]
  have hB : ∀ (ls : List (Nat × Nat × Ent)) (deep : List Nat), ls.map (·.1) = deep → (∀ p ∈ ls, p.2.2.holds w ∧ p.2.2.g = opA sl ts 0 p.1) → ∀ q k c, deepB ls q k c = if k ∈ deep then
      match w.heap[opA (fun t => a.tmps[t]?) ts 0 k]? with
      | some (.cells cs _ _) => kf q cs[c]?
      | _ => 0
    else 0 := by
    intro ls
    induction ls with
    | nil => intro deep h _ q k c; rw [← h]; simp [deepB]
    | cons p ls ih =>
      intro deep h h3 q k c
      obtain ⟨i, j, e⟩ := p
      rw [← h]
      simp only [List.map_cons, deepB, List.mem_cons]
      by_cases hik : i = k
      · subst hik
        obtain ⟨e1, e2⟩ := h3 (i, j, e) (by simp)
        rw [if_pos rfl, if_pos (.inl rfl), ← hA, ← e2]
        unfold Ent.holds at e1
        rw [e1]
        simp
      · rw [if_neg hik, ih _ rfl (fun p hp => h3 p (List.mem_cons_of_mem _ hp))]
        by_cases hm : k ∈ ls.map (·.1)
        · rw [if_pos hm, if_pos (.inr hm)]
        · rw [if_neg hm, if_neg (fun hh => hh.elim (fun h4 => hik h4.symm) hm)]
  funext n
  unfold opσ realσ
  by_cases hn : n % 10000 < 100
  · rw [if_pos hn, if_pos hn, hA]
  · rw [if_neg hn, if_neg hn, hB ls deep h2 h3]

theorem setAll_len (hp : List Ent) : ∀ l : List (Nat × Ent), (setAll hp l).length = hp.length
  | [] => rfl
  | (j, e) :: l => by simp only [setAll, List.length_set]; exact setAll_len hp l

theorem setAll_get (hp : List Ent) (k : Nat) : ∀ l : List (Nat × Ent), (∀ p ∈ l, p.1 < hp.length) → (setAll hp l)[k]? = match lookA l k with | some e => some e | none => hp[k]?
  | [], _ => rfl
  | (j, e) :: l, h => by
    have ih := setAll_get hp k l (fun p hp => h p (List.mem_cons_of_mem _ hp))
    simp only [setAll, lookA]
    rw [List.getElem?_set]
    by_cases hj : j = k
    · subst hj
      have := h (j, e) (by simp)
      rw [if_pos rfl, if_pos (by rw [setAll_len]; exact this), if_pos rfl]
    · rw [if_neg hj, if_neg hj, ih]

theorem lookA_app {β : Type} (m : List (Nat × β)) (k : Nat) : ∀ l : List (Nat × β), lookA (l ++ m) k = match lookA l k with | some e => some e | none => lookA m k
  | [] => rfl
  | (j, e) :: l => by
    simp only [List.cons_append, lookA]
    by_cases hj : j = k
    · rw [if_pos hj, if_pos hj]
    · rw [if_neg hj, if_neg hj, lookA_app m k l]

theorem lookA_ge {l : List (Nat × Ent)} {n k : Nat} (h : ∀ p ∈ l, p.1 < n) (hk : n ≤ k) : lookA l k = none := by
  cases hl : lookA l k with
  | none => rfl
  | some e =>
    have h1 := h _ (lookA_mem _ _ _ hl)
    have h2 : k < n := h1
    omega

theorem way_lex (hd : dstOk o.dst g.st.fr.length = true) (hE : EqOk g'.E) (h : Way P γ ops.toList o i g g') : ∃ A, Lex g g' A o i := by
  cases h with
  | off ds rs hw hr h =>
    subst h
    have hs := readSlots_spec _ _ _ hr
    exact ⟨_, rfl, rfl, rfl, Nat.le_refl _, length_setSlot _ _ _, ⟨[], rfl⟩, ⟨[], rfl⟩, ⟨fun p hp => hs.1 p hp, fun p hp => by cases hp⟩, finish_app hd rs undef .no g.st.hp g.n g.recs g.E [] [] 0 (fun k => rfl), ⟨undef, rfl⟩⟩
  | on ds rs hw hr nx v tag m ha hn rh wh h1 h2 h =>
    subst h
    have hs := readSlots_spec _ _ _ hr
    have hx := arun_ext _ _ _ _ ha
    obtain ⟨lw, k1, k2, k3, k4, k5⟩ := arun_shp _ _ _ _ ha
    have hrh := readEnts_spec _ _ _ h1
    have hwh := readEnts_spec _ _ _ h2
    refine ⟨_, rfl, rfl, rfl, hx.n, length_setSlot _ _ _, hx.E, ⟨[], rfl⟩, ⟨fun p hp => hs.1 p hp, fun p hp => hrh.1 p hp⟩, finish_app hd rs v tag m.hp m.n g.recs m.E rh wh 0 (fun k => ?_), ⟨v, rfl⟩⟩
    cases hl : lookA wh k with
    | some e => exact (hwh.1 (k, e) (lookA_mem _ _ _ hl)).symm
    | none =>
      have hk := lookA_none _ _ hl
      rw [hwh.2, k1] at hk
      simp only [List.append_nil] at hk
      dsimp only
      by_cases hkl : k < g.st.hp.length
      · exact (k2 k hkl hk).symm
      · have e1 : g.st.hp[k]? = none := List.getElem?_eq_none (by omega)
        rw [e1]
        by_cases hkm : k < m.hp.length
        · exact absurd (k4 k (by dsimp only; omega) hkm) hk
        · exact (List.getElem?_eq_none (by omega)).symm
  | call ds rs hw hr f f' args m args' need k val news tag recs ha hwr hrd hrec h =>
    subst h
    have hs := readSlots_spec _ _ _ hr
    have hx := arun_ext _ _ _ _ ha
    obtain ⟨l, hl⟩ := hx.E
    have hneed : ∀ p ∈ need (addr g.st.hp), g.st.hp[p.1]? = some p.2 := eqs_ok (need (addr g.st.hp)) g.st.hp m.E hE.cons.2.cons.2
    refine ⟨_, rfl, rfl, rfl, Nat.le_add_right _ _, length_setSlot _ _ _, ⟨(It.nat f, It.nat f') :: (It.vals args.toList, It.vals (args' (addr g.st.hp))) :: (eqs (need (addr g.st.hp)) g.st.hp ++ l), by simp [finish, hl]⟩, ⟨[_], hrec⟩, ⟨fun p hp => hs.1 p hp, fun p hp => hneed p hp⟩, finish_app hd rs _ tag _ _ recs _ _ _ _ (fun q => ?_), ⟨_, rfl⟩⟩
    rw [number_look, List.getElem?_append]
    by_cases hq : q < g.st.hp.length
    · rw [if_neg (by omega), if_pos hq]
    · rw [if_pos (by omega), if_neg hq]
      split
      · rename_i e he; exact he.symm
      · rename_i he
        rw [he]
        exact List.getElem?_eq_none (by omega)
  | fact ds rs hw hr d need s v recs hrec h =>
    subst h
    have hs := readSlots_spec _ _ _ hr
    have hneed : ∀ p ∈ need (addr g.st.hp), g.st.hp[p.1]? = some p.2 := eqs_ok (need (addr g.st.hp)) g.st.hp g.E hE.cons.2
    exact ⟨_, rfl, rfl, rfl, Nat.le_refl _, length_setSlot _ _ _, ⟨(It.sem (execOp (ev g.st.fr) o), It.sem (s (addr g.st.hp))) :: eqs (need (addr g.st.hp)) g.st.hp, by simp [finish]⟩, ⟨[_], hrec⟩, ⟨fun p hp => hs.1 p hp, fun p hp => hneed p hp⟩, finish_app hd rs v .no g.st.hp g.n recs _ (need (addr g.st.hp)) [] _ (fun k => rfl), ⟨v, rfl⟩⟩
  | eff ds rs hw hr d deep need s k val upd news tag recs hrec δ hδ ls hls σ hσ hu h =>
    subst h
    have hs := readSlots_spec _ _ _ hr
    have hneed : ∀ p ∈ need σ, g.st.hp[p.1]? = some p.2 := eqs_ok (need σ) g.st.hp g.E hE.cons.2.app
    refine ⟨_, rfl, rfl, rfl, Nat.le_add_right _ _, length_setSlot _ _ _, ⟨(It.sem (execOp (ev g.st.fr) o), It.sem (s σ)) :: (ls.map (fun p => (It.nat p.2.2.g, It.nat (opA (slot g.st.fr) (tmpsOf o) 0 p.1))) ++ eqs (need σ) g.st.hp), by simp [finish]⟩, ⟨[_], hrec⟩, ⟨fun p hp => hs.1 p hp, fun p hp => ?_⟩, finish_app hd rs _ tag _ _ recs _ _ _ _ (fun q => ?_), ⟨_, rfl⟩⟩
    · rcases List.mem_append.1 hp with hp | hp
      · exact hneed p hp
      · rw [List.mem_map] at hp
        obtain ⟨p', hp', rfl⟩ := hp
        exact (deepEnts_spec _ _ _ _ hls).1 p' hp'
    rw [lookA_app, number_look, List.getElem?_append, setAll_len, setAll_get _ _ _ hu]
    by_cases hq : q < g.st.hp.length
    · rw [if_neg (by omega), if_pos hq]
      cases lookA (upd σ δ) q <;> rfl
    · rw [if_pos (by omega), if_neg hq, lookA_ge hu (by omega)]
      dsimp only
      split
      · rename_i e he; exact he.symm
      · rename_i he
        rw [he]
        exact List.getElem?_eq_none (by omega)

theorem Mod.keepPut {x : X} {a : Act} {w : World} (h : Mod w0 N x a w) (d : Option Nat) (v : Value) (hd : dstOk d N = true) :
    Mod w0 N ⟨fun t => match d.map (·, v) with | some (d, v) => if t = d then some v else x.sl t | none => x.sl t, x.hp⟩ (a.put d v) w :=
  ⟨by rw [put_defers]; exact h.defers, by rw [put_size]; exact h.size, put_slot h.size hd x.sl h.slot, h.below, h.hold, h.own, h.diff⟩

/-- An operation that calls nothing. -/
theorem way_real (hsel : isSel o.op = false) (hd : dstOk o.dst N = true) (hE : EqOk g'.E) (hrec : ∀ r ∈ g.recs, r.Ok P w0) (h : Way P γ ops.toList o i g g') {A : Actn} (hA : g'.acts = A :: g.acts)
    (hc : A.rc % 2 = 1 ∨ A.rc = 0) {x : X} {a : Act} {w : World} (hm : Mod w0 N x a w) (hp : A.Pre x) (hn : ∀ q, q < A.al.2 → γ (A.al.1 + q) = w.heap.size + q) :
    ∃ v w', Real P ops o a w v w' ∧ Mod w0 N (A.app x) (a.put o.dst v) w' := by
  cases h with
  | off ds rs hw hr h =>
    subst h
    simp only [finish, List.cons.injEq, and_true] at hA
    subst hA
    have hs := readSlots_spec _ _ _ hr
    refine ⟨undef, w, .inl ⟨wants_spec hw (fun d hdm v hv => ?_), rfl, rfl⟩, hm.keepPut o.dst undef hd⟩
    have : d ∈ rs.map (·.1) := by rw [hs.2]; exact hdm
    rw [List.mem_map] at this
    obtain ⟨p, hpm, rfl⟩ := this
    have e1 := hs.1 p hpm
    rw [hv] at e1
    cases e1
    exact hm.slot _ _ (hp.1 p hpm)
  | fact ds rs hw hr d need s v recs hrec' h =>
    subst h
    simp only [finish, List.cons.injEq, and_true] at hA
    subst hA
    have hs := readSlots_spec _ _ _ hr
    have hsl : ∀ p ∈ rs, a.tmps[p.1]? = some p.2 := fun p hpm => hm.slot _ _ (hp.1 p hpm)
    have hrun : (execOp a.eval o).run P w = .ok (.value v) w := by
      rw [ev_congr hsel hr hsl]
      have e1 := hE.cons.1
      injection e1 with e1
      rw [e1]
      have hok : Rec.Ok P w0 (.fact d need s v) := hrec _ (by rw [hrec']; simp)
      exact hok _ w hm.below (fun p hpm => hm.hold _ _ (hp.2 p hpm))
    refine ⟨v, w, .inr ⟨wants_spec hw (fun d hdm u hv => ?_), .inl hrun⟩, hm.keepPut o.dst v hd⟩
    have : d ∈ rs.map (·.1) := by rw [hs.2]; exact List.mem_append_left _ hdm
    rw [List.mem_map] at this
    obtain ⟨p, hpm, rfl⟩ := this
    have e1 := hs.1 p hpm
    rw [hv] at e1
    cases e1
    exact hsl p hpm
  | call ds rs hw hr f f' args m args' need k val news tag recs ha hwr hrd hrec' h =>
    subst h
    simp only [finish, List.cons.injEq, and_true] at hA
    subst hA
    dsimp only at hc
    omega
  | eff ds rs hw hr d deep need s k val upd news tag recs hrec' δ hδ ls hls σ hσ hu h =>
    subst h
    simp only [finish, List.cons.injEq, and_true] at hA
    subst hA
    dsimp only at hc
    omega
  | on ds rs hw hr nx v tag m ha hnx rh wh h1 h2 h =>
    subst h
    simp only [finish, List.cons.injEq, and_true] at hA
    subst hA
    have hs := readSlots_spec _ _ _ hr
    have hrh := readEnts_spec _ _ _ h1
    have hwh := readEnts_spec _ _ _ h2
    have hsl : ∀ p ∈ rs, a.tmps[p.1]? = some p.2 := fun p hpm => hm.slot _ _ (hp.1 p hpm)
    have hrx : ∀ j ∈ m.rd, ∀ e, g.st.hp[j]? = some e → x.hp j = some e := by
      intro j hj e he
      have : j ∈ rh.map (·.1) := by rw [hrh.2]; exact hj
      rw [List.mem_map] at this
      obtain ⟨p, hpm, rfl⟩ := this
      have e1 := hrh.1 p hpm
      rw [he] at e1
      cases e1
      exact hp.2 p hpm
    have hi : Inv (fun j => j ∈ m.rd) g.st.hp w :=
      ⟨fun j e hj he => hm.hold j e (hrx j hj e he), fun j j' e e' hj hj' hne he he' ho => hm.diff j j' e e' hne (hrx j hj e he) (hrx j' hj' e' he') ho⟩
    have hx := arun_ext _ _ _ _ ha
    obtain ⟨w', lw, hrun, hlw, hR⟩ := arun_sound _ (fun j => j ∈ m.rd) _ _ _ w ha hE hi (fun j hj => hj) (fun q hq => hn q (by dsimp only at hq ⊢; omega))
    simp only [List.append_nil] at hlw
    have hrun' : (execOp a.eval o).run P w = .ok nx w' := by rw [ev_congr hsel hr hsl]; exact hrun
    have hwant : Region.wanted o (yielded ops a.tmps) = true := by
      refine wants_spec hw (fun d hdm u hv => ?_)
      have : d ∈ rs.map (·.1) := by rw [hs.2]; exact List.mem_append_left _ hdm
      rw [List.mem_map] at this
      obtain ⟨p, hpm, rfl⟩ := this
      have e1 := hs.1 p hpm
      rw [hv] at e1
      cases e1
      exact hsl p hpm
    refine ⟨v, w', .inr ⟨hwant, ?_⟩, ?_⟩
    · rcases hnx with rfl | ⟨rfl, rfl⟩
      · exact .inl hrun'
      · exact .inr ⟨hrun', rfl⟩
    · obtain ⟨r1, r2, r3, r4, r5, r6, r7, r8, r9, r10, r11, r12, r13, r14⟩ := hR
      dsimp only at r1 r2 r6 r7 r8 r9 r10 r11 r12
      have hsz : w.heap.size ≤ w'.heap.size := by omega
      have h00 : w0.heap.size ≤ w.heap.size := hm.below.size
      -- what stands in the new heap, and where it comes from
      have hmem : ∀ k e, lookA wh k = some e → k ∈ lw ∧ m.hp[k]? = some e := fun k e hl => by
        have h1' := lookA_mem _ _ _ hl
        have h2' := hwh.1 _ h1'
        have h3' : k ∈ wh.map (·.1) := List.mem_map.2 ⟨_, h1', rfl⟩
        rw [hwh.2, hlw] at h3'
        exact ⟨h3', h2'⟩
      have hnon : ∀ k, lookA wh k = none → k ∉ lw := fun k hl => by
        have := lookA_none _ _ hl
        rw [hwh.2, hlw] at this
        exact this
      have hold' : ∀ k e, lookA wh k = some e → ∃ e0 : Ent, (x.hp k = some e0 ∧ e.g = e0.g ∧ e.own = e0.own ∧ e0.own = true ∧ k < g.st.hp.length) ∨ (g.st.hp.length ≤ k ∧ e.own = true ∧ w.heap.size ≤ e.g) := fun k e hl => by
        obtain ⟨hk, he⟩ := hmem k e hl
        by_cases hkl : k < g.st.hp.length
        · have hg0 : g.st.hp[k]? = some g.st.hp[k] := List.getElem?_eq_getElem hkl
          obtain ⟨ho, hrd⟩ := r12 k hk _ hg0
          obtain ⟨e', he', q1, q2⟩ := r9 k _ hg0
          rw [he] at he'
          cases he'
          exact ⟨g.st.hp[k], .inl ⟨hrx k hrd _ hg0, q1, q2, ho, hkl⟩⟩
        · obtain ⟨_, q2, q3⟩ := r11 k e (by omega) he
          exact ⟨e, .inr ⟨by omega, q2, q3⟩⟩
      have hA' : ∀ k e, lookA wh k = some e → (k ∈ m.rd ∨ g.st.hp.length ≤ k) := fun k e hl => by
        obtain ⟨hk, he⟩ := hmem k e hl
        by_cases hkl : k < g.st.hp.length
        · exact .inl (r12 k hk _ (List.getElem?_eq_getElem hkl)).2
        · exact .inr (by omega)
      have hkeep : ∀ k e, lookA wh k = none → x.hp k = some e → e.holds w' := fun k e hl he => by
        have hh := hm.hold k e he
        have hlt := hh.lt
        unfold Ent.holds at hh ⊢
        rw [r7 e.g hlt (fun j hj f hf => ?_)]
        · exact hh
        · obtain ⟨ho, hrd⟩ := r12 j hj f hf
          exact hm.diff j k f e (fun hjk => hnon k hl (hjk ▸ hj)) (hrx j hrd f hf) he ho
      refine ⟨by rw [put_defers]; exact hm.defers, by rw [put_size]; exact hm.size, put_slot hm.size hd x.sl hm.slot, ?_, ?_, ?_, ?_⟩
      · refine hm.below.trans ⟨r3, r4, r5, hsz, fun b hb => r7 b (by omega) (fun j hj f hf => ?_)⟩
        obtain ⟨ho, hrd⟩ := r12 j hj f hf
        have := hm.own j f (hrx j hrd f hf) ho
        omega
      · intro k e he
        simp only [Actn.app] at he
        split at he
        · rename_i e' hl
          cases he
          obtain ⟨hk, he⟩ := hmem k e hl
          exact r6.hold k e (hA' k e hl) he
        · rename_i hl
          exact hkeep k e hl he
      · intro k e he ho
        simp only [Actn.app] at he
        split at he
        · rename_i e' hl
          cases he
          obtain ⟨e0, hor⟩ := hold' k e hl
          rcases hor with ⟨q1, q2, q3, q4, _⟩ | ⟨_, _, q3⟩
          · rw [q2]; exact hm.own k e0 q1 q4
          · omega
        · exact hm.own k e he ho
      · intro k k' e e' hne he he' ho
        simp only [Actn.app] at he he'
        split at he <;> split at he'
        · rename_i f hl _ f' hl'
          cases he
          cases he'
          obtain ⟨hk, hke⟩ := hmem k e hl
          obtain ⟨hk', hke'⟩ := hmem k' e' hl'
          exact r6.diff k k' e e' (hA' k e hl) (hA' k' e' hl') hne hke hke' ho
        · rename_i f hl _ hl'
          cases he
          obtain ⟨e0, hor⟩ := hold' k e hl
          rcases hor with ⟨q1, q2, q3, q4, _⟩ | ⟨_, _, q3⟩
          · rw [q2]; exact hm.diff k k' e0 e' hne q1 he' q4
          · have := (hm.hold k' e' he').lt
            omega
        · rename_i hl _ f' hl'
          cases he'
          obtain ⟨e0, hor⟩ := hold' k' e' hl'
          rcases hor with ⟨q1, q2, q3, q4, _⟩ | ⟨_, _, q3⟩
          · rw [q2]; exact hm.diff k k' e e0 hne he q1 ho
          · have := (hm.hold k e he).lt
            omega
        · exact hm.diff k k' e e' hne he he' ho

/-- What is told of an operation that turns blocks. -/
theorem Mod.eff {x : X} {a : Act} {w w' : World} (hm : Mod w0 N x a w) {need upd : List (Nat × Ent)} {news : List Ent} {L : Nat} (hn : ∀ p ∈ need, x.hp p.1 = some p.2) (h : Done w w' need upd news)
    {d : Option Nat} (hd : dstOk d N = true) (v : Value) {i : Nat} {rs : List (Nat × Value)} {rh : List (Nat × Ent)} {al : Nat × Nat} {rc : Nat} :
    Mod w0 N (Actn.app ⟨i, rs, d.map (·, v), rh, upd ++ number L news, al, rc⟩ x) (a.put d v) w' := by
  have hidx : ∀ j ∈ upd.map (·.1), ∃ e0 : Ent, x.hp j = some e0 ∧ e0.own = true := fun j hj => by
    rw [List.mem_map] at hj
    obtain ⟨p, hp, rfl⟩ := hj
    obtain ⟨_, e0, h1, h2, _⟩ := h.upds p hp
    exact ⟨e0, hn _ h1, h2⟩
  have hlook : ∀ k e, lookA (upd ++ number L news) k = some e → ((k, e) ∈ upd) ∨ (lookA upd k = none ∧ L ≤ k ∧ news[k - L]? = some e) := fun k e hl => by
    rw [lookA_app] at hl
    cases hu : lookA upd k with
    | some e' =>
      rw [hu] at hl
      cases hl
      exact .inl (lookA_mem _ _ _ hu)
    | none =>
      rw [hu] at hl
      dsimp only at hl
      rw [number_look] at hl
      split at hl
      · exact .inr ⟨rfl, by assumption, hl⟩
      · cases hl
  have hnone : ∀ k, lookA (upd ++ number L news) k = none → k ∉ upd.map (·.1) := fun k hl hk => by
    rw [lookA_app] at hl
    cases hu : lookA upd k with
    | some e' => rw [hu] at hl; cases hl
    | none => exact lookA_none _ _ hu hk
  have hkeep : ∀ k e, lookA (upd ++ number L news) k = none → x.hp k = some e → e.holds w' := fun k e hl he => by
    have hh := hm.hold k e he
    have hlt := hh.lt
    unfold Ent.holds at hh ⊢
    rw [h.frame e.g hlt (fun p hp hpi => ?_)]
    · exact hh
    · obtain ⟨e0, h1, h2⟩ := hidx _ hpi
      have h3 := hn p hp
      rw [h1] at h3
      cases h3
      exact hm.diff p.1 k p.2 e (fun hpk => hnone k hl (hpk ▸ hpi)) h1 he h2
  refine ⟨by rw [put_defers]; exact hm.defers, by rw [put_size]; exact hm.size, put_slot hm.size hd x.sl hm.slot, ?_, ?_, ?_, ?_⟩
  · refine hm.below.trans ⟨h.os, h.tape, h.output, h.size, fun b hb => h.frame b (by have := hm.below.size; omega) (fun p hp hpi => ?_)⟩
    obtain ⟨e0, h1, h2⟩ := hidx _ hpi
    have h3 := hn p hp
    rw [h1] at h3
    cases h3
    have := hm.own p.1 p.2 h1 h2
    omega
  · intro k e he
    simp only [Actn.app] at he
    split at he
    · rename_i e' hl
      cases he
      rcases hlook k e hl with hu | ⟨_, _, hu⟩
      · exact (h.upds _ hu).1
      · exact (h.new e (List.mem_of_getElem? hu)).1
    · rename_i hl
      exact hkeep k e hl he
  · intro k e he ho
    simp only [Actn.app] at he
    split at he
    · rename_i e' hl
      cases he
      rcases hlook k e hl with hu | ⟨_, _, hu⟩
      · obtain ⟨_, e0, h1, h2, h3⟩ := h.upds _ hu
        rcases h3 with h3 | h3
        · have := hm.own k e0 (hn _ h1) h2
          have h3' : e.g = e0.g := h3
          omega
        · have := hm.below.size
          have h3' : w.heap.size ≤ e.g := h3
          omega
      · have := (h.new e (List.mem_of_getElem? hu)).2
        have := hm.below.size
        omega
    · exact hm.own k e he ho
  · intro k k' e e' hne he he' ho
    simp only [Actn.app] at he he'
    split at he <;> split at he'
    · rename_i f hl _ f' hl'
      cases he
      cases he'
      rcases hlook k e hl with hu | ⟨_, hk, hu⟩ <;> rcases hlook k' e' hl' with hu' | ⟨_, hk', hu'⟩
      · exact h.diff _ hu _ hu' hne
      · exact h.diffn _ hu _ (List.mem_of_getElem? hu')
      · exact fun hh => h.diffn _ hu' _ (List.mem_of_getElem? hu) hh.symm
      · rcases Nat.lt_or_ge k k' with hlt' | hge
        · have := List.pairwise_iff_getElem.1 h.pw (k - L) (k' - L) (lt_of_get hu) (lt_of_get hu') (by omega)
          rw [List.getElem?_eq_getElem (lt_of_get hu)] at hu
          rw [List.getElem?_eq_getElem (lt_of_get hu')] at hu'
          rw [← Option.some.inj hu, ← Option.some.inj hu']
          exact this
        · have := List.pairwise_iff_getElem.1 h.pw (k' - L) (k - L) (lt_of_get hu') (lt_of_get hu) (by omega)
          rw [List.getElem?_eq_getElem (lt_of_get hu)] at hu
          rw [List.getElem?_eq_getElem (lt_of_get hu')] at hu'
          rw [← Option.some.inj hu, ← Option.some.inj hu']
          exact fun hh => this hh.symm
    · rename_i f hl _ hl'
      cases he
      rcases hlook k e hl with hu | ⟨_, hk, hu⟩
      · obtain ⟨_, e0, h1, h2, h3⟩ := h.upds _ hu
        rcases h3 with h3 | h3
        · have := hm.diff k k' e0 e' hne (hn _ h1) he' h2
          have h3' : e.g = e0.g := h3
          rw [h3']
          exact this
        · have := (hm.hold k' e' he').lt
          have h3' : w.heap.size ≤ e.g := h3
          omega
      · have := (h.new e (List.mem_of_getElem? hu)).2
        have := (hm.hold k' e' he').lt
        omega
    · rename_i hl _ f' hl'
      cases he'
      rcases hlook k' e' hl' with hu | ⟨_, hk, hu⟩
      · obtain ⟨_, e0, h1, h2, h3⟩ := h.upds _ hu
        rcases h3 with h3 | h3
        · have := hm.diff k k' e e0 hne he (hn _ h1) ho
          have h3' : e'.g = e0.g := h3
          rw [h3']
          exact this
        · have := (hm.hold k e he).lt
          have h3' : w.heap.size ≤ e'.g := h3
          omega
      · have := (h.new e' (List.mem_of_getElem? hu)).2
        have := (hm.hold k e he).lt
        omega
    · exact hm.diff k k' e e' hne he he' ho

/-- A call, or what is told of an operation. -/
theorem way_call (hsel : isSel o.op = false) (hd : dstOk o.dst N = true) (hE : EqOk g'.E) (h : Way P γ ops.toList o i g g') {A : Actn} (hA : g'.acts = A :: g.acts)
    (hc : ¬ (A.rc % 2 = 1 ∨ A.rc = 0)) : (∃ d deep need s k val upd news tag recs, ∃ σ : Nat → Nat, g.recs = .eff d deep need s k val upd news tag :: recs ∧ A.rc = 2 * g.recs.length + 2 ∧ A.al = (g.n, k) ∧
      ∀ (x : X) (a : Act) (w : World), Mod w0 N x a w → A.Pre x →
        Region.wanted o (yielded ops a.tmps) = true ∧ execOp a.eval o = s σ ∧ σ = realσ a w (tmpsOf o) deep ∧ (∀ p ∈ need σ, p.2.holds w) ∧ (∀ p ∈ need σ, ∀ q ∈ need σ, p.1 ≠ q.1 → p.2.own = true → p.2.g ≠ q.2.g) ∧
        ∀ (δ : Nat → Nat) (w' : World), (∀ q, (if q < k then γ (g.n + q) else 0) = δ q) → Done w w' (need σ) (upd σ δ) (news σ δ) → Mod w0 N (A.app x) (a.put o.dst (val σ δ)) w') ∨
    (∃ f args need k val news tag recs, g.recs = .call f args need k val news tag :: recs ∧ A.rc = 2 * g.recs.length + 2 ∧ A.al = (g.n, k) ∧
      ∀ (x : X) (a : Act) (w : World), Mod w0 N x a w → A.Pre x →
        Region.wanted o (yielded ops a.tmps) = true ∧ (execOp a.eval o).run P w = .ok (.enter f (args (addr g.st.hp)).toArray) w ∧ (∀ p ∈ need (addr g.st.hp), p.2.holds w) ∧
        ∀ (δ : Nat → Nat) (w' : World), (∀ q, (if q < k then γ (g.n + q) else 0) = δ q) → Below w.heap.size w w' → (∀ e ∈ news δ, e.holds w' ∧ w.heap.size ≤ e.g) → (news δ).Pairwise (fun a b => a.g ≠ b.g) →
          Mod w0 N (A.app x) (a.put o.dst (val δ)) w') := by
  cases h with
  | eff ds rs hw hr d deep need s k val upd news tag recs hrec' δ0 hδ0 ls hls σ hσ hu h =>
    subst h
    simp only [finish, List.cons.injEq, and_true] at hA
    subst hA
    have hs := readSlots_spec _ _ _ hr
    refine .inl ⟨d, deep, need, s, k, val, upd, news, tag, recs, σ, hrec', rfl, by simp, fun x a w hm hp => ?_⟩
    have hsl : ∀ p ∈ rs, a.tmps[p.1]? = some p.2 := fun p hpm => hm.slot _ _ (hp.1 p hpm)
    have hwant : Region.wanted o (yielded ops a.tmps) = true := by
      refine wants_spec hw (fun d hdm u hv => ?_)
      have : d ∈ rs.map (·.1) := by rw [hs.2]; exact List.mem_append_left _ hdm
      rw [List.mem_map] at this
      obtain ⟨p, hpm, rfl⟩ := this
      have e1 := hs.1 p hpm
      rw [hv] at e1
      cases e1
      exact hsl p hpm
    have e1 := hE.cons.1
    injection e1 with e1
    have hpn : ∀ p ∈ need σ, x.hp p.1 = some p.2 := fun p hpm => hp.2 p (List.mem_append_left _ hpm)
    have hpl : ∀ p ∈ ls, x.hp p.2.1 = some p.2.2 := fun p hpm => hp.2 (p.2.1, p.2.2) (List.mem_append_right _ (List.mem_map.2 ⟨p, hpm, rfl⟩))
    have hg : ∀ (l : List (Nat × Nat × Ent)) (E : List (It × It)), EqOk (l.map (fun p => (It.nat p.2.2.g, It.nat (opA (slot g.st.fr) (tmpsOf o) 0 p.1))) ++ E) → ∀ p ∈ l, p.2.2.g = opA (slot g.st.fr) (tmpsOf o) 0 p.1 := by
      intro l
      induction l with
      | nil => intro E _ p hp; cases hp
      | cons q l ih =>
        intro E h p hp
        rw [List.map_cons, List.cons_append] at h
        rcases List.mem_cons.1 hp with rfl | hp
        · exact It.nat_inj h.cons.1
        · exact ih E h.cons.2 p hp
    have hreal : σ = realσ a w (tmpsOf o) deep := by
      rw [hσ]
      refine opσ_real (fun t ht => ?_) (deepEnts_spec _ _ _ _ hls).2 (fun p hpm => ⟨hm.hold _ _ (hpl p hpm), hg ls _ hE.cons.2 p hpm⟩)
      have : t ∈ rs.map (·.1) := by rw [hs.2]; exact List.mem_append_right _ ht
      rw [List.mem_map] at this
      obtain ⟨p, hpm, rfl⟩ := this
      exact ⟨p.2, hs.1 p hpm, hsl p hpm⟩
    refine ⟨hwant, by rw [ev_congr hsel hr hsl, e1], hreal, fun p hpm => hm.hold _ _ (hpn p hpm), fun p hpm q hqm hne ho => hm.diff _ _ _ _ hne (hpn p hpm) (hpn q hqm) ho, fun δ w' hδ hdone => ?_⟩
    have hδ' : δ0 = δ := by rw [hδ0]; exact funext hδ
    subst hδ'
    exact hm.eff hpn hdone hd _
  | off ds rs hw hr h =>
    subst h
    simp only [finish, List.cons.injEq, and_true] at hA
    subst hA
    exact absurd (.inr rfl) hc
  | on ds rs hw hr nx v tag m ha hnx rh wh h1 h2 h =>
    subst h
    simp only [finish, List.cons.injEq, and_true] at hA
    subst hA
    exact absurd (.inr rfl) hc
  | fact ds rs hw hr d need s v recs hrec' h =>
    subst h
    simp only [finish, List.cons.injEq, and_true] at hA
    subst hA
    exact absurd (.inl (by dsimp only; omega)) hc
  | call ds rs hw hr f f' args m args' need k val news tag recs ha hwr hrd hrec' h =>
    subst h
    simp only [finish, List.cons.injEq, and_true] at hA
    subst hA
    have hs := readSlots_spec _ _ _ hr
    have e1 := It.nat_inj hE.cons.1
    have e2 := hE.cons.2.cons.1
    injection e2 with e2
    refine .inr ⟨f', args', need, k, val, news, tag, recs, hrec', rfl, by simp, fun x a w hm hp => ?_⟩
    have hsl : ∀ p ∈ rs, a.tmps[p.1]? = some p.2 := fun p hpm => hm.slot _ _ (hp.1 p hpm)
    have hwant : Region.wanted o (yielded ops a.tmps) = true := by
      refine wants_spec hw (fun d hdm u hv => ?_)
      have : d ∈ rs.map (·.1) := by rw [hs.2]; exact List.mem_append_left _ hdm
      rw [List.mem_map] at this
      obtain ⟨p, hpm, rfl⟩ := this
      have e1 := hs.1 p hpm
      rw [hv] at e1
      cases e1
      exact hsl p hpm
    have hEm : EqOk m.E := EqOk.app (l := eqs (need (addr g.st.hp)) g.st.hp) hE.cons.2.cons.2
    obtain ⟨lw0, k1, k2, k3, k4, k5⟩ := arun_shp _ _ _ _ ha
    rw [hwr] at k1
    simp only [List.append_nil] at k1
    have hmn := (k5 k1.symm).1
    obtain ⟨w', lw, hrun, hlw, hR⟩ := arun_sound _ (fun _ => False) _ _ _ w ha hEm ⟨fun j e hj => hj.elim, fun j j' e e' hj => hj.elim⟩ (fun j hj => by rw [hrd] at hj; cases hj) (fun q hq => by rw [hmn] at hq; dsimp only at hq; omega)
    rw [hwr] at hlw
    simp only [List.append_nil] at hlw
    have hw' := (hR.nil hlw.symm).1
    subst hw'
    refine ⟨hwant, ?_, fun p hpm => hm.hold _ _ (hp.2 p hpm), ?_⟩
    · rw [ev_congr hsel hr hsl, hrun, e1, ← e2]
    · intro δ w2 hδ hb hnews hpw
      have hδ' : (fun q => if q < k then γ (g.n + q) else 0) = δ := funext hδ
      rw [hδ']
      have hlt : ∀ q e, x.hp q = some e → e.holds w2 := fun q e he => by
        have hh := hm.hold q e he
        have := hh.lt
        unfold Ent.holds at hh ⊢
        rw [hb.block e.g this]
        exact hh
      have hnl : ∀ q e, lookA (number g.st.hp.length (news δ)) q = some e → (news δ)[q - g.st.hp.length]? = some e ∧ g.st.hp.length ≤ q := fun q e hl => by
        rw [number_look] at hl
        split at hl
        · exact ⟨hl, by assumption⟩
        · cases hl
      refine ⟨by rw [put_defers]; exact hm.defers, by rw [put_size]; exact hm.size, put_slot hm.size hd x.sl hm.slot, ?_, ?_, ?_, ?_⟩
      · exact hm.below.trans (hb.mono hm.below.size)
      · intro q e he
        simp only [Actn.app] at he
        split at he
        · rename_i e' hl
          cases he
          exact (hnews e (List.mem_of_getElem? (hnl q e hl).1)).1
        · exact hlt q e he
      · intro q e he ho
        simp only [Actn.app] at he
        split at he
        · rename_i e' hl
          cases he
          have := (hnews e (List.mem_of_getElem? (hnl q e hl).1)).2
          have := hm.below.size
          omega
        · exact hm.own q e he ho
      · intro q q' e e' hne he he' ho
        simp only [Actn.app] at he he'
        split at he <;> split at he'
        · rename_i f hl _ f' hl'
          cases he
          cases he'
          obtain ⟨u1, u2⟩ := hnl q e hl
          obtain ⟨u1', u2'⟩ := hnl q' e' hl'
          rcases Nat.lt_or_ge q q' with hlt' | hge
          · have := List.pairwise_iff_getElem.1 hpw (q - g.st.hp.length) (q' - g.st.hp.length) (lt_of_get u1) (lt_of_get u1') (by omega)
            rw [List.getElem?_eq_getElem (lt_of_get u1)] at u1
            rw [List.getElem?_eq_getElem (lt_of_get u1')] at u1'
            rw [← Option.some.inj u1, ← Option.some.inj u1']
            exact this
          · have := List.pairwise_iff_getElem.1 hpw (q' - g.st.hp.length) (q - g.st.hp.length) (lt_of_get u1') (lt_of_get u1) (by omega)
            rw [List.getElem?_eq_getElem (lt_of_get u1)] at u1
            rw [List.getElem?_eq_getElem (lt_of_get u1')] at u1'
            rw [← Option.some.inj u1, ← Option.some.inj u1']
            exact fun hh => this hh.symm
        · rename_i f hl _ hl'
          cases he
          have := (hnews e (List.mem_of_getElem? (hnl q e hl).1)).2
          have := (hm.hold q' e' he').lt
          omega
        · rename_i hl _ f' hl'
          cases he'
          have := (hnews e' (List.mem_of_getElem? (hnl q' e' hl').1)).2
          have := (hm.hold q e he).lt
          omega
        · exact hm.diff q q' e e' hne he he' ho

end Go.Ex
