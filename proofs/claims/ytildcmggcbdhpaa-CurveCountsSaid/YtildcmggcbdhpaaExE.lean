/- From one equation over the symbolic run to a function's contract. No conditions. -/
import Derived.Test.YtildcmggcbdhpaaExD
namespace Go.Ex
open Go.RowKit

def retOne (P : Program) (st : St) : ResultVar → Option (Value × List (It × It))
  | .tmp t => match slot st.fr t with
    | some v => some (v, [])
    | none => none
  | .cell ad t => match slot st.fr ad, st.tg[ad]? with
    | some v, some (.at_ j) =>
      match arun P (fun _ => 0) (fun _ => some j) (do loadVar t (← asAddr v)) ⟨st.hp, 0, 0, [], [], []⟩ with
      | some (u, m) => match m.wr with
        | [] => some (u, m.E)
        | _ => none
      | none => none
    | _, _ => none

def retAll (P : Program) (st : St) : List ResultVar → Option (List Value × List (It × It))
  | [] => some ([], [])
  | r :: rs => match retOne P st r, retAll P st rs with
    | some (v, E1), some (vs, E2) => some (v :: vs, E1 ++ E2)
    | _, _ => none

def pack : List Value → Value
  | [v] => v
  | vs => .tuple vs.toArray

/-- What a call comes to: what must be equal, and the value. -/
def fin (P : Program) (rs : List ResultVar) (want : List (Nat × Ent)) : Option (Out × S) → Option (List (It × It) × Value)
  | some (.normal, s) => (retAll P s.st rs).map fun (vs, E) => (E ++ (eqs want s.st.hp ++ s.E), pack vs)
  | some (.ret, s) => (retAll P s.st rs).map fun (vs, E) => (E ++ (eqs want s.st.hp ++ s.E), pack vs)
  | _ => none

def outL (P : Program) (rs : List ResultVar) (want : List (Nat × Ent)) (r : Option (Out × S)) : List It :=
  match fin P rs want r with
  | some (E, v) => .val v :: E.map (·.1)
  | none => [.nat 0]

def outR (P : Program) (rs : List ResultVar) (want : List (Nat × Ent)) (v : Value) (r : Option (Out × S)) : List It :=
  match fin P rs want r with
  | some (E, _) => .val v :: E.map (·.2)
  | none => [.nat 1]

theorem out_eq {P : Program} {rs : List ResultVar} {want : List (Nat × Ent)} {v : Value} {r : Option (Out × S)} (h : outL P rs want r = outR P rs want v r) : ∃ E, fin P rs want r = some (E, v) ∧ EqOk E := by
  unfold outL outR at h
  cases hf : fin P rs want r with
  | none => rw [hf] at h; injection h with h _; injection h with h; cases h
  | some p =>
    obtain ⟨E, u⟩ := p
    rw [hf] at h
    injection h with h1 h2
    injection h1 with h1
    subst h1
    exact ⟨E, rfl, h2⟩

/-- A function's first state. -/
def start (n : Nat) (args : List (Value × Tag)) (hp : List Ent) : St :=
  ⟨args.map (fun p => some p.1) ++ List.replicate (n - args.length) (some undef), args.map (·.2) ++ List.replicate (n - args.length) .no, hp⟩

def resF (tmps : Array Value) : ResultVar → Sem Value
  | .tmp t => pure (tmps.getD t undef)
  | .cell ad t => do loadVar t (← asAddr (tmps.getD ad undef))

theorem results_eq (fn : Func) (tmps : Array Value) : results fn tmps = (do
    let vs ← fn.results.mapM (resF tmps)
    pure (if h : vs.size = 1 then vs[0] else .tuple vs)) := by
  unfold results
  congr 1

section
variable {P : Program} {w0 : World} {N : Nat}

theorem retOne_sound {st : St} {a : Act} {w : World} (hm : Mod w0 N (toX st) a w) (r : ResultVar) (v : Value) (E : List (It × It)) (h : retOne P st r = some (v, E)) (hE : EqOk E) :
    (resF a.tmps r).run P w = .ok v w := by
  have hget : ∀ t u, slot st.fr t = some u → a.tmps.getD t undef = u := fun t u hs => by
    have := hm.slot t u hs
    simp [Array.getD_eq_getD_getElem?, this]
  cases r with
  | tmp t =>
    simp only [retOne] at h
    split at h
    · rename_i u hs
      cases h
      show (pure (a.tmps.getD t undef) : Sem Value).run P w = _
      rw [hget t v hs]
      rfl
    · cases h
  | cell ad t =>
    simp only [retOne] at h
    split at h
    · rename_i u j hs hj
      split at h
      · rename_i u' m hr
        split at h
        · rename_i hw
          cases h
          show (do loadVar t (← asAddr (a.tmps.getD ad undef)) : Sem Value).run P w = _
          rw [hget ad u hs]
          obtain ⟨w', lw, hrun, hlw, hR⟩ := arun_sound _ (fun k => True) _ _ _ w hr hE ⟨fun k e _ he => hm.hold k e he, fun k k' e e' _ _ hne he he' ho => hm.diff k k' e e' hne he he' ho⟩ (fun _ _ => trivial) (fun q hq => by
            obtain ⟨lw0, k1, k2, k3, k4, k5⟩ := arun_shp _ _ _ _ hr
            rw [hw] at k1
            simp only [List.append_nil] at k1
            rw [(k5 k1.symm).1] at hq
            dsimp only at hq
            omega)
          rw [hw] at hlw
          simp only [List.append_nil] at hlw
          rw [(hR.nil hlw.symm).1] at hrun
          exact hrun
        · cases h
      · cases h
    · cases h

theorem retAll_sound {st : St} {a : Act} {w : World} (hm : Mod w0 N (toX st) a w) : ∀ (rs : List ResultVar) (vs : List Value) (E : List (It × It)), retAll P st rs = some (vs, E) → EqOk E →
    (rs.mapM (resF a.tmps)).run P w = .ok vs w
  | [], vs, E, h, _ => by
    simp only [retAll, Option.some.injEq, Prod.mk.injEq] at h
    rw [← h.1]
    rfl
  | r :: rs, vs, E, h, hE => by
    simp only [retAll] at h
    split at h
    · rename_i v E1 vs' E2 h1 h2
      cases h
      rw [List.mapM_cons, Sem.run_bind, retOne_sound hm r v E1 h1 hE.left]
      simp only [Result.andThen_ok]
      rw [Sem.run_bind, retAll_sound hm rs vs' E2 h2 hE.app]
      rfl
    · cases h

theorem results_run {fn : Func} {st : St} {a : Act} {w : World} (hm : Mod w0 N (toX st) a w) {vs : List Value} {E : List (It × It)} (h : retAll P st fn.results.toList = some (vs, E)) (hE : EqOk E) :
    (results fn a.tmps).run P w = .ok (pack vs) w := by
  rw [results_eq, Array.mapM_eq_mapM_toList, Sem.run_bind, Sem.run_map, retAll_sound hm _ vs E h hE]
  simp only [Result.andThen_ok, Sem.run_pure]
  cases vs with
  | nil => rfl
  | cons v vs =>
    cases vs with
    | nil => rfl
    | cons u us => rfl

theorem calls {f : FuncId} {fn : Func} {c : Code} (hf : P.funcs[f]? = some fn) (hb : fn.body = some c) (hmix : P.follows .mixedOrders = true) (K : Nat) (args : List (Value × Tag)) (hp : List Ent) (recs : List Rec)
    (v : (Nat → Nat) → Value) (want : (Nat → Nat) → List (Nat × Ent)) (w : World) (hhp : ∀ e ∈ hp, e.own = false ∧ e.holds w) (hrecs : ∀ r ∈ recs, r.Ok P w)
    (heq : ∀ γ : Nat → Nat, outL P fn.results.toList (want γ) (exec P c ⟨start fn.ntmps args hp, (List.range K).map γ, recs, []⟩) = outR P fn.results.toList (want γ) (v γ) (exec P c ⟨start fn.ntmps args hp, (List.range K).map γ, recs, []⟩)) :
    Calls P f (args.map (·.1)).toArray w fun e w' => ∃ γ : Nat → Nat, e = .returned (v γ) ∧ Below w.heap.size w w' ∧ (∀ p ∈ want γ, p.2.holds w' ∧ (p.2.own = true → w.heap.size ≤ p.2.g)) ∧
      (∀ p ∈ want γ, ∀ q ∈ want γ, p.1 ≠ q.1 → p.2.own = true → p.2.g ≠ q.2.g) := by
  refine calls_of_wp hf hb ?_
  have hlist : ∀ gs : List Nat, gs.length = K → (List.range K).map (fun i => gs.getD i 0) = gs := fun gs hgs => by
    apply List.ext_getElem?
    intro i
    by_cases hi : i < K
    · simp [List.getD_eq_getElem?_getD, hi, List.getElem?_eq_getElem (show i < gs.length by omega)]
    · rw [List.getElem?_eq_none (by simp; omega), List.getElem?_eq_none (by omega)]
  have hm : Mod w (start fn.ntmps args hp).fr.length (toX (start fn.ntmps args hp)) { tmps := (args.map (·.1)).toArray ++ Array.replicate (fn.ntmps - (args.map (·.1)).toArray.size) undef, defers := [] } w := by
    refine ⟨rfl, by simp [start], fun t u hu => ?_, Below.refl _ _, fun k e he => (hhp e (List.mem_of_getElem? he)).2, fun k e he ho => ?_, fun k k' e e' _ he _ ho => ?_⟩
    · have hu' : ((start fn.ntmps args hp).fr[t]?).bind id = some u := hu
      have e1 : (start fn.ntmps args hp).fr = (args.map (·.1) ++ List.replicate (fn.ntmps - args.length) undef).map some := by simp [start]
      rw [e1, List.getElem?_map] at hu'
      rw [← Array.getElem?_toList]
      simp only [Array.toList_append, Array.toList_replicate, List.size_toArray, List.length_map]
      cases hh : (args.map (·.1) ++ List.replicate (fn.ntmps - args.length) undef)[t]? with
      | none => rw [hh] at hu'; simp at hu'
      | some u' => rw [hh] at hu'; simpa using hu'
    · rw [(hhp e (List.mem_of_getElem? he)).1] at ho; cases ho
    · rw [(hhp e (List.mem_of_getElem? he)).1] at ho; cases ho
  refine exec_true hmix c (start fn.ntmps args hp) recs [] K _ w _ hm rfl hrecs (fun gs hgs => ?_) (fun δ o st' recs' E' a' w' h hN' hm' => ?_)
  · have h1 := heq (fun i => gs.getD i 0)
    rw [hlist gs hgs] at h1
    obtain ⟨E, h2, h3⟩ := out_eq h1
    unfold fin at h2
    split at h2
    · rename_i s hs
      refine ⟨_, s, hs, ?_⟩
      cases hr : retAll P s.st fn.results.toList with
      | none => rw [hr] at h2; cases h2
      | some p =>
        obtain ⟨vs, E1⟩ := p
        rw [hr] at h2
        simp only [Option.map_some, Option.some.injEq, Prod.mk.injEq] at h2
        rw [← h2.1] at h3
        exact h3.app.app
    · rename_i s hs
      refine ⟨_, s, hs, ?_⟩
      cases hr : retAll P s.st fn.results.toList with
      | none => rw [hr] at h2; cases h2
      | some p =>
        obtain ⟨vs, E1⟩ := p
        rw [hr] at h2
        simp only [Option.map_some, Option.some.injEq, Prod.mk.injEq] at h2
        rw [← h2.1] at h3
        exact h3.app.app
    · cases h2
  · have hK : (δ ++ List.replicate (K - δ.length) 0).length = K := by have := h.1; simp; omega
    have h1 := heq (fun i => (δ ++ List.replicate (K - δ.length) 0).getD i 0)
    rw [hlist _ hK, h.2 (List.replicate (K - δ.length) 0) (by have := h.1; simp; omega)] at h1
    obtain ⟨E, h2, h3⟩ := out_eq h1
    have hret : (o = .normal ∨ o = .ret) ∧ ∃ vs E1, retAll P st' fn.results.toList = some (vs, E1) ∧ E = E1 ++ (eqs (want fun i => (δ ++ List.replicate (K - δ.length) 0).getD i 0) st'.hp ++ E') ∧ pack vs = v fun i => (δ ++ List.replicate (K - δ.length) 0).getD i 0 := by
      cases o with
      | normal =>
        simp only [fin] at h2
        cases hr : retAll P st' fn.results.toList with
        | none => rw [hr] at h2; cases h2
        | some p => obtain ⟨vs, E1⟩ := p; rw [hr] at h2; simp only [Option.map_some, Option.some.injEq, Prod.mk.injEq] at h2; exact ⟨.inl rfl, vs, E1, rfl, h2.1.symm, h2.2⟩
      | ret =>
        simp only [fin] at h2
        cases hr : retAll P st' fn.results.toList with
        | none => rw [hr] at h2; cases h2
        | some p => obtain ⟨vs, E1⟩ := p; rw [hr] at h2; simp only [Option.map_some, Option.some.injEq, Prod.mk.injEq] at h2; exact ⟨.inr rfl, vs, E1, rfl, h2.1.symm, h2.2⟩
      | exit id => simp only [fin] at h2; cases h2
    obtain ⟨ho, vs, E1, hr, rfl, hv⟩ := hret
    have hrun := results_run hm' (fn := fn) hr h3.left
    have hwant := eqs_ok _ _ _ h3.app
    have hpost : a'.defers = [] ∧ ∃ u, (results fn a'.tmps).run P w' = .ok u w' ∧ (∃ γ : Nat → Nat, Ending.returned u = .returned (v γ) ∧ Below w.heap.size w w' ∧ (∀ p ∈ want γ, p.2.holds w' ∧ (p.2.own = true → w.heap.size ≤ p.2.g)) ∧
      (∀ p ∈ want γ, ∀ q ∈ want γ, p.1 ≠ q.1 → p.2.own = true → p.2.g ≠ q.2.g)) :=
      ⟨hm'.defers, pack vs, hrun, fun i => (δ ++ List.replicate (K - δ.length) 0).getD i 0, by rw [hv], hm'.below, fun p hpm => ⟨hm'.hold _ _ (hwant p hpm), fun ho => hm'.own _ _ (hwant p hpm) ho⟩,
        fun p hpm q hqm hne ho => hm'.diff _ _ _ _ hne (hwant p hpm) (hwant q hqm) ho⟩
    rcases ho with rfl | rfl
    · exact hpost
    · exact hpost

/-- Of a function that makes nothing that is handed back. -/
theorem calls0 {f : FuncId} {fn : Func} {c : Code} (hf : P.funcs[f]? = some fn) (hb : fn.body = some c) (hmix : P.follows .mixedOrders = true) (K : Nat) (args : List (Value × Tag)) (hp : List Ent) (recs : List Rec)
    (v : Value) (w : World) (hhp : ∀ e ∈ hp, e.own = false ∧ e.holds w) (hrecs : ∀ r ∈ recs, r.Ok P w)
    (heq : ∀ γ : Nat → Nat, outL P fn.results.toList [] (exec P c ⟨start fn.ntmps args hp, (List.range K).map γ, recs, []⟩) = outR P fn.results.toList [] v (exec P c ⟨start fn.ntmps args hp, (List.range K).map γ, recs, []⟩)) :
    Calls P f (args.map (·.1)).toArray w fun e w' => e = .returned v ∧ Below w.heap.size w w' :=
  (calls hf hb hmix K args hp recs (fun _ => v) (fun _ => []) w hhp hrecs heq).mono fun _ _ ⟨_, h1, h2, _⟩ => ⟨h1, h2⟩

/-- A plain contract as a record. -/
theorem Rec.ok_call {f : FuncId} {args : (Nat → Nat) → List Value} {need : (Nat → Nat) → List (Nat × Ent)} {v : Value} {tag : Tag}
    (h : ∀ (γ : Nat → Nat) (w : World), Below w0.heap.size w0 w → (∀ p ∈ need γ, p.2.holds w) → Calls P f (args γ).toArray w fun e w' => e = .returned v ∧ Below w.heap.size w w') :
    Rec.Ok P w0 (.call f args need 0 (fun _ => v) (fun _ => []) tag) := fun γ w hb hn =>
  (h γ w hb hn).mono fun _ _ ⟨h1, h2⟩ => ⟨fun _ => 0, fun _ _ => rfl, h1, h2, fun e he => (by cases he), List.Pairwise.nil⟩
end
end Go.Ex
