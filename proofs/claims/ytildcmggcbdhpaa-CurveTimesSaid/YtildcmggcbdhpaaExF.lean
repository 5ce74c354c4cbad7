/- Loops of the symbolic run, by what holds at each round's head. No conditions. -/
import Derived.Test.YtildcmggcbdhpaaExE
namespace Go.Ex
open Go.RowKit

def ocode : Out → Nat
  | .normal => 0
  | .ret => 1
  | .exit id => id + 2

theorem ocode_inj {a b : Out} (h : ocode a = ocode b) : a = b := by
  cases a <;> cases b <;> simp only [ocode] at h <;> first | rfl | omega | (congr 1; omega)

def endL (want : St) : Option (Out × S) → List It
  | some (o, s) => .nat (ocode o) :: (chk want s.st ++ s.E).map (·.1)
  | none => []

def endR (o : Out) (want : St) : Option (Out × S) → List It
  | some (_, s) => .nat (ocode o) :: (chk want s.st ++ s.E).map (·.2)
  | none => [.nat 0]

theorem end_eq {o : Out} {want : St} {r : Option (Out × S)} (h : endL want r = endR o want r) : ∃ s, r = some (o, s) ∧ EqOk (chk want s.st ++ s.E) := by
  cases r with
  | none => cases h
  | some p =>
    obtain ⟨o', s⟩ := p
    simp only [endL, endR, List.cons.injEq] at h
    have := ocode_inj (It.nat_inj h.1)
    subst this
    exact ⟨s, rfl, h.2⟩

section
variable {P : Program} {w0 : World} {N : Nat}

/-- A piece of code, from one state to another that may name the numbers that are made on the way. -/
theorem code_wpN {c : Code} (hmix : P.follows .mixedOrders = true) (st : St) (want : (Nat → Nat) → St) (o : Out) (K : Nat) (recs : List Rec) (hrecs : ∀ r ∈ recs, r.Ok P w0)
    (heq : ∀ γ : Nat → Nat, endL (want γ) (exec P c ⟨st, (List.range K).map γ, recs, []⟩) = endR o (want γ) (exec P c ⟨st, (List.range K).map γ, recs, []⟩)) {a : Act} {w : World} (hm : Mod w0 N (toX st) a w) (hN : st.fr.length = N) :
    c.wp P (fun e a' w' => ∃ γ : Nat → Nat, e = o.exit_ ∧ Mod w0 N (toX (want γ)) a' w' ∧ (want γ).fr.length = N) a w := by
  have hlist : ∀ gs : List Nat, gs.length = K → (List.range K).map (fun i => gs.getD i 0) = gs := fun gs hgs => by
    apply List.ext_getElem?
    intro i
    by_cases hi : i < K
    · simp [List.getD_eq_getElem?_getD, hi, List.getElem?_eq_getElem (show i < gs.length by omega)]
    · rw [List.getElem?_eq_none (by simp; omega), List.getElem?_eq_none (by omega)]
  refine exec_true hmix c st recs [] K a w _ hm hN hrecs (fun gs hgs => ?_) (fun δ o' st' recs' E' a' w' h hN' hm' => ?_)
  · have h1 := heq (fun i => gs.getD i 0)
    rw [hlist gs hgs] at h1
    obtain ⟨s, h2, h3⟩ := end_eq h1
    exact ⟨o, s, h2, h3.app⟩
  · have hK : (δ ++ List.replicate (K - δ.length) 0).length = K := by have := h.1; simp; omega
    have h1 := heq (fun i => (δ ++ List.replicate (K - δ.length) 0).getD i 0)
    rw [hlist _ hK, h.2 (List.replicate (K - δ.length) 0) (by have := h.1; simp; omega)] at h1
    obtain ⟨s, h2, h3⟩ := end_eq h1
    simp only [Option.some.injEq, Prod.mk.injEq] at h2
    obtain ⟨rfl, rfl⟩ := h2
    obtain ⟨e1, e2⟩ := hm'.of_chk h3.left
    exact ⟨_, rfl, e2, e1.trans hN'⟩

/-- A piece of code, from one state to another. -/
theorem code_wp {c : Code} (hmix : P.follows .mixedOrders = true) (st want : St) (o : Out) (K : Nat) (recs : List Rec) (hrecs : ∀ r ∈ recs, r.Ok P w0)
    (heq : ∀ γ : Nat → Nat, endL want (exec P c ⟨st, (List.range K).map γ, recs, []⟩) = endR o want (exec P c ⟨st, (List.range K).map γ, recs, []⟩)) {a : Act} {w : World} (hm : Mod w0 N (toX st) a w) (hN : st.fr.length = N) :
    c.wp P (fun e a' w' => e = o.exit_ ∧ Mod w0 N (toX want) a' w' ∧ want.fr.length = N) a w := by
  have hlist : ∀ gs : List Nat, gs.length = K → (List.range K).map (fun i => gs.getD i 0) = gs := fun gs hgs => by
    apply List.ext_getElem?
    intro i
    by_cases hi : i < K
    · simp [List.getD_eq_getElem?_getD, hi, List.getElem?_eq_getElem (show i < gs.length by omega)]
    · rw [List.getElem?_eq_none (by simp; omega), List.getElem?_eq_none (by omega)]
  refine exec_true hmix c st recs [] K a w _ hm hN hrecs (fun gs hgs => ?_) (fun δ o' st' recs' E' a' w' h hN' hm' => ?_)
  · have h1 := heq (fun i => gs.getD i 0)
    rw [hlist gs hgs] at h1
    obtain ⟨s, h2, h3⟩ := end_eq h1
    exact ⟨o, s, h2, h3.app⟩
  · have hK : (δ ++ List.replicate (K - δ.length) 0).length = K := by have := h.1; simp; omega
    have h1 := heq (fun i => (δ ++ List.replicate (K - δ.length) 0).getD i 0)
    rw [hlist _ hK, h.2 (List.replicate (K - δ.length) 0) (by have := h.1; simp; omega)] at h1
    obtain ⟨s, h2, h3⟩ := end_eq h1
    simp only [Option.some.injEq, Prod.mk.injEq] at h2
    obtain ⟨rfl, rfl⟩ := h2
    obtain ⟨e1, e2⟩ := hm'.of_chk h3.left
    exact ⟨rfl, e2, e1.trans hN'⟩

/-- What a round does. -/
inductive Step (P : Program) (w0 : World) (c : Code) {ι : Type} (L : ι → St) (Inv : ι → Prop) (μ : ι → Nat) (out : Out) (post : St) (k : ι) : Prop where
  | go (k' : ι) (h1 : Inv k') (h2 : μ k' < μ k) (K : Nat) (recs : List Rec) (hr : ∀ r ∈ recs, r.Ok P w0)
      (h : ∀ γ : Nat → Nat, endL (L k') (exec P c ⟨L k, (List.range K).map γ, recs, []⟩) = endR .normal (L k') (exec P c ⟨L k, (List.range K).map γ, recs, []⟩))
  | stop (K : Nat) (recs : List Rec) (hr : ∀ r ∈ recs, r.Ok P w0)
      (h : ∀ γ : Nat → Nat, endL post (exec P c ⟨L k, (List.range K).map γ, recs, []⟩) = endR out post (exec P c ⟨L k, (List.range K).map γ, recs, []⟩))

theorem loop_wp {c : Code} (hmix : P.follows .mixedOrders = true) {ι : Type} (L : ι → St) (Inv : ι → Prop) (μ : ι → Nat) (out : Out) (post : St) (ho : out ≠ .normal) (hs : ∀ k, Inv k → Step P w0 c L Inv μ out post k)
    (k : ι) (hk : Inv k) {a : Act} {w : World} (hm : Mod w0 N (toX (L k)) a w) (hN : (L k).fr.length = N) :
    (Code.loop c).wp P (fun e a' w' => e = out.exit_ ∧ Mod w0 N (toX post) a' w') a w := by
  have key : ∀ (n : Nat) (k : ι) (a : Act) (w : World), μ k < n → Inv k → Mod w0 N (toX (L k)) a w → (L k).fr.length = N →
      Code.rounds P c (fun e a' w' => e = out.exit_ ∧ Mod w0 N (toX post) a' w') n a w := by
    intro n
    induction n with
    | zero => intro k a w h; omega
    | succ n ih =>
      intro k a w hlt hk hm hN
      rw [rounds_succ]
      cases hs k hk with
      | go k' h1 h2 K recs hr h =>
        refine wp_mono (code_wp hmix (L k) (L k') .normal K recs hr h hm hN) ?_
        rintro e a' w' ⟨rfl, hm', hN'⟩
        exact ih k' a' w' (by omega) h1 hm' hN'
      | stop K recs hr h =>
        refine wp_mono (code_wp hmix (L k) post out K recs hr h hm hN) ?_
        rintro e a' w' ⟨rfl, hm', _⟩
        cases out with
        | normal => exact absurd rfl ho
        | exit id => exact ⟨rfl, hm'⟩
        | ret => exact ⟨rfl, hm'⟩
  exact wp_loop_rounds (μ k + 1) (key (μ k + 1) k a w (by omega) hk hm hN)

/-- A loop as a record. -/
theorem Rec.ok_code {c : Code} (hmix : P.follows .mixedOrders = true) {ι : Type} (L : List Nat → ι → St) (Inv : ι → Prop) (μ : ι → Nat) (out : Out) (post : List Nat → St) (ho : out ≠ .normal) (k : ι) (hk : Inv k)
    (hs : ∀ gl k, Inv k → Step P w0 c (L gl) Inv μ out (post gl) k) : Rec.Ok P w0 (.code c (fun gl => L gl k) post out) := fun gl _ _ hm =>
  wp_mono (loop_wp hmix (L gl) Inv μ out (post gl) ho (hs gl) k hk hm rfl) fun _ _ _ ⟨h1, h2⟩ => ⟨fun _ => 0, fun _ _ => rfl, h1, h2⟩
/-- What a round does, where states name numbers that are made on the way; it may go back out of the function. -/
inductive StepN (P : Program) (w0 : World) (c : Code) {ι : Type} (L : ι → St) (Inv : ι → Prop) (μ : ι → Nat) (out : Out) (k0 : Nat) (post : (Nat → Nat) → St) (k : ι) : Prop where
  | go (k' : (Nat → Nat) → ι) (h1 : ∀ γ, Inv (k' γ)) (h2 : ∀ γ, μ (k' γ) < μ k) (K : Nat) (recs : List Rec) (hr : ∀ r ∈ recs, r.Ok P w0)
      (h : ∀ γ : Nat → Nat, endL (L (k' γ)) (exec P c ⟨L k, (List.range K).map γ, recs, []⟩) = endR .normal (L (k' γ)) (exec P c ⟨L k, (List.range K).map γ, recs, []⟩))
  | stop (f : (Nat → Nat) → Nat → Nat) (hf : ∀ γ q, k0 ≤ q → f γ q = 0) (K : Nat) (recs : List Rec) (hr : ∀ r ∈ recs, r.Ok P w0)
      (h : ∀ γ : Nat → Nat, endL (post (f γ)) (exec P c ⟨L k, (List.range K).map γ, recs, []⟩) = endR out (post (f γ)) (exec P c ⟨L k, (List.range K).map γ, recs, []⟩))

theorem loop_wpN {c : Code} (hmix : P.follows .mixedOrders = true) {ι : Type} (L : ι → St) (Inv : ι → Prop) (μ : ι → Nat) (out : Out) (k0 : Nat) (post : (Nat → Nat) → St) (ho : out ≠ .normal) (hs : ∀ k, Inv k → StepN P w0 c L Inv μ out k0 post k)
    (k : ι) (hk : Inv k) {a : Act} {w : World} (hm : Mod w0 N (toX (L k)) a w) (hN : (L k).fr.length = N) :
    (Code.loop c).wp P (fun e a' w' => ∃ δ : Nat → Nat, (∀ q, k0 ≤ q → δ q = 0) ∧ e = out.exit_ ∧ Mod w0 N (toX (post δ)) a' w') a w := by
  have key : ∀ (n : Nat) (k : ι) (a : Act) (w : World), μ k < n → Inv k → Mod w0 N (toX (L k)) a w → (L k).fr.length = N →
      Code.rounds P c (fun e a' w' => ∃ δ : Nat → Nat, (∀ q, k0 ≤ q → δ q = 0) ∧ e = out.exit_ ∧ Mod w0 N (toX (post δ)) a' w') n a w := by
    intro n
    induction n with
    | zero => intro k a w h; omega
    | succ n ih =>
      intro k a w hlt hk hm hN
      rw [rounds_succ]
      cases hs k hk with
      | go k' h1 h2 K recs hr h =>
        refine wp_mono (code_wpN hmix (L k) (fun γ => L (k' γ)) .normal K recs hr h hm hN) ?_
        rintro e a' w' ⟨γ, rfl, hm', hN'⟩
        exact ih (k' γ) a' w' (by have := h2 γ; omega) (h1 γ) hm' hN'
      | stop f hf K recs hr h =>
        refine wp_mono (code_wpN hmix (L k) (fun γ => post (f γ)) out K recs hr h hm hN) ?_
        rintro e a' w' ⟨γ, rfl, hm', _⟩
        cases out with
        | normal => exact absurd rfl ho
        | exit id => exact ⟨f γ, hf γ, rfl, hm'⟩
        | ret => exact ⟨f γ, hf γ, rfl, hm'⟩
  exact wp_loop_rounds (μ k + 1) (key (μ k + 1) k a w (by omega) hk hm hN)

/-- A loop as a record, that hands k0 numbers on. -/
theorem Rec.ok_codeN {c : Code} (hmix : P.follows .mixedOrders = true) {ι : Type} (L : List Nat → ι → St) (Inv : ι → Prop) (μ : ι → Nat) (out : Out) (k0 : Nat) (post : List Nat → (Nat → Nat) → St) (ho : out ≠ .normal) (k : ι) (hk : Inv k)
    (hs : ∀ gl k, Inv k → StepN P w0 c (L gl) Inv μ out k0 (post gl) k) : Rec.Ok P w0 (.codeN c k0 (fun gl => L gl k) post out) := fun gl _ _ hm =>
  loop_wpN hmix (L gl) Inv μ out k0 (post gl) ho (hs gl) k hk hm rfl
end
end Go.Ex
