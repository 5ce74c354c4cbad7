/- The symbolic run of one operation's tree tells the truth. No conditions. -/
import Derived.Test.YtildcmggcbdhpaaEx
namespace Go.Ex
open Go.RowKit

def Ent.holds (e : Ent) (w : World) : Prop := w.heap[e.g]? = some (.cells e.cs.toArray e.t (0, 0))

theorem Ent.holds.lt {e : Ent} {w : World} (h : e.holds w) : e.g < w.heap.size := by
  rcases Nat.lt_or_ge e.g w.heap.size with hlt | hge
  · exact hlt
  · unfold Ent.holds at h; rw [Array.getElem?_eq_none hge] at h; cases h

def EqOk (E : List (It × It)) : Prop := E.map (·.1) = E.map (·.2)

theorem EqOk.cons {p : It × It} {E : List (It × It)} (h : EqOk (p :: E)) : p.1 = p.2 ∧ EqOk E := by
  simp only [EqOk, List.map_cons, List.cons.injEq] at h
  exact h

theorem EqOk.app {l E : List (It × It)} (h : EqOk (l ++ E)) : EqOk E := by
  induction l with
  | nil => exact h
  | cons p l ih => exact ih h.cons.2

theorem EqOk.left {l E : List (It × It)} (h : EqOk (l ++ E)) : EqOk l := by
  induction l with
  | nil => rfl
  | cons p l ih =>
    have h1 := h.cons
    have h2 := ih h1.2
    simp only [EqOk, List.map_cons] at h2 ⊢
    rw [h1.1, h2]

theorem It.nat_inj {a b : Nat} (h : It.nat a = It.nat b) : a = b := by injection h

/-- What the run adds to its lists. -/
structure Ext (m m' : M) : Prop where
  E : ∃ l, m'.E = l ++ m.E
  rd : ∃ l, m'.rd = l ++ m.rd
  wr : ∃ l, m'.wr = l ++ m.wr
  n : m.n ≤ m'.n

theorem Ext.refl (m : M) : Ext m m := ⟨⟨[], rfl⟩, ⟨[], rfl⟩, ⟨[], rfl⟩, Nat.le_refl _⟩
theorem Ext.step {m m1 m' : M} (h : Ext m1 m') (hE : ∃ l, m1.E = l ++ m.E) (hr : ∃ l, m1.rd = l ++ m.rd) (hw : ∃ l, m1.wr = l ++ m.wr) (hn : m.n ≤ m1.n) : Ext m m' := by
  obtain ⟨⟨l1, e1⟩, ⟨l2, e2⟩, ⟨l3, e3⟩, h4⟩ := h
  obtain ⟨k1, f1⟩ := hE
  obtain ⟨k2, f2⟩ := hr
  obtain ⟨k3, f3⟩ := hw
  exact ⟨⟨l1 ++ k1, by rw [e1, f1, List.append_assoc]⟩, ⟨l2 ++ k2, by rw [e2, f2, List.append_assoc]⟩, ⟨l3 ++ k3, by rw [e3, f3, List.append_assoc]⟩, Nat.le_trans hn h4⟩

variable {P : Program} {γ : Nat → Nat} {J : Nat → Option Nat}

theorem arun_ext {α : Type} (s : Sem α) : ∀ (m : M) (v : α) (m' : M), arun P γ J s m = some (v, m') → Ext m m' := by
  induction s with
  | pure a => intro m v m' h; simp only [arun, Option.some.injEq, Prod.mk.injEq] at h; rw [← h.2]; exact Ext.refl m
  | program k ih => intro m v m' h; exact ih _ m v m' h
  | mark _ k ih => intro m v m' h; exact ih m v m' h
  | load md a k ih =>
    intro m v m' h
    simp only [arun] at h
    split at h
    · cases h
    · split at h
      · cases h
      · split at h
        · exact (ih _ _ _ _ h).step ⟨[_], rfl⟩ ⟨[_], rfl⟩ ⟨[], rfl⟩ (Nat.le_refl _)
        · cases h
  | store md a u k ih =>
    intro m v m' h
    simp only [arun] at h
    split at h
    · cases h
    · cases h
    · split at h
      · cases h
      · split at h
        · cases h
        · split at h
          · exact (ih _ _ _ h).step ⟨[_], rfl⟩ ⟨[_], rfl⟩ ⟨[_], rfl⟩ (Nat.le_refl _)
          · cases h
  | new o k ih =>
    intro m v m' h
    simp only [arun] at h
    split at h
    · exact (ih _ _ _ _ h).step ⟨[], rfl⟩ ⟨[], rfl⟩ ⟨[_], rfl⟩ (Nat.le_succ _)
    · cases h
  | shape r k ih =>
    intro m v m' h
    simp only [arun] at h
    split at h
    · cases h
    · split at h
      · cases h
      · exact (ih _ _ _ _ h).step ⟨[_], rfl⟩ ⟨[_], rfl⟩ ⟨[], rfl⟩ (Nat.le_refl _)
  | frozen r k ih =>
    intro m v m' h
    simp only [arun] at h
    split at h
    · cases h
    · split at h
      · cases h
      · exact (ih _ _ _ _ h).step ⟨[_], rfl⟩ ⟨[_], rfl⟩ ⟨[], rfl⟩ (Nat.le_refl _)
  | _ => intro m v m' h; simp [arun] at h

/-- What of the heap's list is turned. -/
structure Shp (m m' : M) (lw : List Nat) : Prop where
  wr : m'.wr = lw ++ m.wr
  keep : ∀ j : Nat, j < m.hp.length → j ∉ lw → m'.hp[j]? = m.hp[j]?
  len : m.hp.length ≤ m'.hp.length
  new : ∀ j : Nat, m.hp.length ≤ j → j < m'.hp.length → j ∈ lw
  nil : lw = [] → m'.n = m.n ∧ m'.hp = m.hp

theorem Shp.refl (m : M) : Shp m m [] := ⟨rfl, fun _ _ _ => rfl, Nat.le_refl _, fun j h1 h2 => by omega, fun _ => ⟨rfl, rfl⟩⟩

theorem arun_shp {α : Type} (s : Sem α) : ∀ (m : M) (v : α) (m' : M), arun P γ J s m = some (v, m') → ∃ lw, Shp m m' lw := by
  induction s with
  | pure a => intro m v m' h; simp only [arun, Option.some.injEq, Prod.mk.injEq] at h; rw [← h.2]; exact ⟨[], Shp.refl m⟩
  | program k ih => intro m v m' h; exact ih _ m v m' h
  | mark _ k ih => intro m v m' h; exact ih m v m' h
  | load md a k ih =>
    intro m v m' h
    simp only [arun] at h
    split at h
    · cases h
    · split at h
      · cases h
      · split at h
        · obtain ⟨lw, h1, h2, h3, h4, h5⟩ := ih _ _ _ _ h
          exact ⟨lw, h1, h2, h3, h4, h5⟩
        · cases h
  | store md a u k ih =>
    intro m v m' h
    simp only [arun] at h
    split at h
    · cases h
    · cases h
    · split at h
      · cases h
      · rename_i j _
        split at h
        · cases h
        · split at h
          · obtain ⟨lw, h1, h2, h3, h4, h5⟩ := ih _ _ _ h
            simp only [List.length_set] at h2 h3 h4
            refine ⟨lw ++ [j], by rw [h1]; simp, fun q hq hn => ?_, h3, fun q ha hb => by simp [h4 q ha hb], fun hh => by simp at hh⟩
            simp only [List.mem_append, List.mem_singleton, not_or] at hn
            rw [h2 q hq hn.1, List.getElem?_set, if_neg (fun hh => hn.2 hh.symm)]
          · cases h
  | new o k ih =>
    intro m v m' h
    simp only [arun] at h
    split at h
    · obtain ⟨lw, h1, h2, h3, h4, h5⟩ := ih _ _ _ _ h
      simp only [List.length_append, List.length_cons, List.length_nil] at h2 h3 h4
      refine ⟨lw ++ [m.hp.length], by rw [h1]; simp, fun q hq hn => ?_, by omega, fun q ha hb => ?_, fun hh => by simp at hh⟩
      · simp only [List.mem_append, List.mem_singleton, not_or] at hn
        rw [h2 q (by omega) hn.1, List.getElem?_append, if_pos hq]
      · by_cases hq : q = m.hp.length
        · simp [hq]
        · simp [h4 q (by omega) hb]
    · cases h
  | shape r k ih =>
    intro m v m' h
    simp only [arun] at h
    split at h
    · cases h
    · split at h
      · cases h
      · obtain ⟨lw, h1, h2, h3, h4, h5⟩ := ih _ _ _ _ h
        exact ⟨lw, h1, h2, h3, h4, h5⟩
  | frozen r k ih =>
    intro m v m' h
    simp only [arun] at h
    split at h
    · cases h
    · split at h
      · cases h
      · obtain ⟨lw, h1, h2, h3, h4, h5⟩ := ih _ _ _ _ h
        exact ⟨lw, h1, h2, h3, h4, h5⟩
  | _ => intro m v m' h; simp [arun] at h

structure Inv (A : Nat → Prop) (hp : List Ent) (w : World) : Prop where
  hold : ∀ j e, A j → hp[j]? = some e → e.holds w
  diff : ∀ j j' e e', A j → A j' → j ≠ j' → hp[j]? = some e → hp[j']? = some e' → e.own = true → e.g ≠ e'.g

/-- What the run of an operation's tree has done. -/
structure Res (A : Nat → Prop) (m : M) (w : World) (m' : M) (w' : World) (lw : List Nat) : Prop where
  size : w'.heap.size + m.n = w.heap.size + m'.n
  le : m.n ≤ m'.n
  os : w'.os = w.os
  tape : w'.tape = w.tape
  output : w'.output = w.output
  inv : Inv (fun j => A j ∨ m.hp.length ≤ j) m'.hp w'
  frame : ∀ b, b < w.heap.size → (∀ j ∈ lw, ∀ e : Ent, m.hp[j]? = some e → e.g ≠ b) → w'.heap[b]? = w.heap[b]?
  keep : ∀ j, j < m.hp.length → j ∉ lw → m'.hp[j]? = m.hp[j]?
  same : ∀ (j : Nat) (e : Ent), m.hp[j]? = some e → ∃ e' : Ent, m'.hp[j]? = some e' ∧ e'.g = e.g ∧ e'.own = e.own
  len : m.hp.length ≤ m'.hp.length
  new : ∀ (j : Nat) (e : Ent), m.hp.length ≤ j → m'.hp[j]? = some e → j ∈ lw ∧ e.own = true ∧ w.heap.size ≤ e.g
  own : ∀ j ∈ lw, ∀ e : Ent, m.hp[j]? = some e → e.own = true ∧ j ∈ m'.rd
  inb : ∀ j ∈ lw, ∃ e, m'.hp[j]? = some e
  nil : lw = [] → w' = w ∧ m'.n = m.n ∧ m'.hp = m.hp

theorem Res.refl {A : Nat → Prop} {m : M} {w : World} (h : Inv A m.hp w) : Res A m w m w [] where
  size := rfl
  le := Nat.le_refl _
  os := rfl
  tape := rfl
  output := rfl
  inv := by
    have nn : ∀ j e, m.hp[j]? = some e → j < m.hp.length := fun j e he => by
      rcases Nat.lt_or_ge j m.hp.length with h1 | h1
      · exact h1
      · rw [List.getElem?_eq_none h1] at he; cases he
    refine ⟨fun j e hj he => ?_, fun j j' e e' hj hj' hne he he' ho => ?_⟩
    · exact h.hold j e (hj.resolve_right (by have := nn j e he; omega)) he
    · exact h.diff j j' e e' (hj.resolve_right (by have := nn j e he; omega)) (hj'.resolve_right (by have := nn j' e' he'; omega)) hne he he' ho
  frame := fun _ _ _ => rfl
  keep := fun _ _ _ => rfl
  same := fun j e he => ⟨e, he, rfl, rfl⟩
  len := Nat.le_refl _
  new := fun j e hj he => by rw [List.getElem?_eq_none hj] at he; cases he
  own := fun j hj => by cases hj
  inb := fun j hj => by cases hj
  nil := fun _ => ⟨rfl, rfl, rfl⟩

theorem lt_of_get {α : Type} {l : List α} {j : Nat} {e : α} (h : l[j]? = some e) : j < l.length := by
  rcases Nat.lt_or_ge j l.length with h1 | h1
  · exact h1
  · rw [List.getElem?_eq_none h1] at h; cases h

theorem cell_of_holds {e : Ent} {w : World} (h : e.holds w) (a : Addr) (hs : a.spot = none) (hb : a.block = e.g) : w.cell? a = e.cs[a.off]? := by
  unfold Ent.holds at h
  simp [World.cell?, hb, h, hs]

theorem frozen_of_holds {e : Ent} {w : World} (h : e.holds w) (a : Addr) (hb : a.block = e.g) : w.frozen? a = false := by
  unfold Ent.holds at h
  simp [World.frozen?, hb, h]

theorem shape_of_holds {e : Ent} {w : World} (h : e.holds w) : w.shape? e.g = some (e.t, e.cs.length) := by
  unfold Ent.holds at h
  simp [World.shape?, h]

theorem heap_set_ne (w : World) (a : Addr) (v : Value) (b : Nat) (h : b ≠ a.block) : (w.setCell a v).heap[b]? = w.heap[b]? := by
  simp only [World.setCell, Array.getElem?_modify]
  rw [if_neg (by omega)]

theorem holds_set {e : Ent} {w : World} (h : e.holds w) (a : Addr) (v : Value) (hs : a.spot = none) (hb : a.block = e.g) :
    Ent.holds { e with cs := e.cs.set a.off v } (w.setCell a v) := by
  unfold Ent.holds at h ⊢
  simp [World.setCell, Array.getElem?_modify, hb, h, hs]

/-- A store, and what follows. -/
theorem Res.store {A : Nat → Prop} {m m' : M} {w w' : World} {lw : List Nat} {j : Nat} {e : Ent} {a : Addr} {v : Value} {c : Nat} {E : List (It × It)}
    (he : m.hp[j]? = some e) (ho : e.own = true) (hb : a.block = e.g)
    (hrd : j ∈ m'.rd)
    (h : Res A { m with c := c, hp := m.hp.set j { e with cs := e.cs.set a.off v }, E := E, rd := j :: m.rd, wr := j :: m.wr } (w.setCell a v) m' w' lw) : Res A m w m' w' (lw ++ [j]) := by
  have hj := lt_of_get he
  have hsz : (w.setCell a v).heap.size = w.heap.size := by simp [World.setCell]
  have hlen : (m.hp.set j { e with cs := e.cs.set a.off v }).length = m.hp.length := by simp
  obtain ⟨h1, h2, h3, h4, h5, h6, h7, h8, h9, h10, h11, h12, h13, h14⟩ := h
  have hget : ∀ q, q ≠ j → (m.hp.set j { e with cs := e.cs.set a.off v })[q]? = m.hp[q]? := fun q hq => by
    rw [List.getElem?_set]; rw [if_neg (fun h => hq h.symm)]
  have hgj : (m.hp.set j { e with cs := e.cs.set a.off v })[j]? = some { e with cs := e.cs.set a.off v } := by
    rw [List.getElem?_set]; simp [hj]
  have hgg : ∀ (q : Nat) (f : Ent), m.hp[q]? = some f → ∃ f' : Ent, (m.hp.set j { e with cs := e.cs.set a.off v })[q]? = some f' ∧ f'.g = f.g ∧ f'.own = f.own := fun q f hf => by
    by_cases hq : q = j
    · subst hq
      rw [he] at hf
      cases hf
      exact ⟨_, hgj, rfl, rfl⟩
    · exact ⟨f, by rw [hget q hq]; exact hf, rfl, rfl⟩
  refine ⟨by rw [hsz] at h1; exact h1, h2, h3, h4, h5, by simpa [hlen] using h6, ?_, ?_, ?_, by simpa [hlen] using h10, ?_, ?_, ?_, ?_⟩
  · intro b hbl hn
    have hbj : b ≠ a.block := fun hh => hn j (by simp) e he (by rw [hh, hb])
    rw [h7 b (by rw [hsz]; exact hbl) (fun q hq f hf => ?_), heap_set_ne _ _ _ _ hbj]
    by_cases hqj : q = j
    · subst hqj
      rw [hgj] at hf
      cases hf
      exact hn q (by simp) e he
    · rw [hget q hqj] at hf
      exact hn q (by simp [hq]) f hf
  · intro q hq hnq
    simp only [List.mem_append, List.mem_singleton, not_or] at hnq
    rw [h8 q (by rw [hlen]; exact hq) hnq.1, hget q hnq.2]
  · intro q f hf
    obtain ⟨f', hf', e1, e2⟩ := hgg q f hf
    obtain ⟨f'', hf'', e3, e4⟩ := h9 q f' hf'
    exact ⟨f'', hf'', e3.trans e1, e4.trans e2⟩
  · intro q f hq hf
    obtain ⟨k1, k2, k3⟩ := h11 q f (by rw [hlen]; exact hq) hf
    exact ⟨by simp [k1], k2, by rw [hsz] at k3; exact k3⟩
  · intro q hq f hf
    simp only [List.mem_append, List.mem_singleton] at hq
    rcases hq with hq | hq
    · obtain ⟨f', hf', _, e2⟩ := hgg q f hf
      obtain ⟨k1, k2⟩ := h12 q hq f' hf'
      exact ⟨e2 ▸ k1, k2⟩
    · subst hq
      rw [he] at hf
      cases hf
      exact ⟨ho, hrd⟩
  · intro q hq
    simp only [List.mem_append, List.mem_singleton] at hq
    rcases hq with hq | hq
    · exact h13 q hq
    · subst hq
      obtain ⟨f', hf', _, _⟩ := h9 q _ hgj
      exact ⟨f', hf'⟩
  · intro hh
    simp at hh

theorem Inv.store {A : Nat → Prop} {hp : List Ent} {w : World} {j : Nat} {e : Ent} {a : Addr} {v : Value} (hA : A j) (hi : Inv A hp w) (he : hp[j]? = some e) (ho : e.own = true) (hs : a.spot = none) (hb : a.block = e.g) :
    Inv A (hp.set j { e with cs := e.cs.set a.off v }) (w.setCell a v) := by
  have hj := lt_of_get he
  have hget : ∀ q, q ≠ j → (hp.set j { e with cs := e.cs.set a.off v })[q]? = hp[q]? := fun q hq => by
    rw [List.getElem?_set]; rw [if_neg (fun h => hq h.symm)]
  have hgj : (hp.set j { e with cs := e.cs.set a.off v })[j]? = some { e with cs := e.cs.set a.off v } := by
    rw [List.getElem?_set]; simp [hj]
  have back : ∀ (q : Nat) (f : Ent), (hp.set j { e with cs := e.cs.set a.off v })[q]? = some f → ∃ f' : Ent, hp[q]? = some f' ∧ f'.g = f.g ∧ f'.own = f.own := fun q f hf => by
    by_cases hq : q = j
    · subst hq
      rw [hgj] at hf
      cases hf
      exact ⟨e, he, rfl, rfl⟩
    · rw [hget q hq] at hf
      exact ⟨f, hf, rfl, rfl⟩
  refine ⟨fun q f hq hf => ?_, fun q q' f f' hq hq' hne hf hf' hof => ?_⟩
  · by_cases hqj : q = j
    · subst hqj
      rw [hgj] at hf
      cases hf
      exact holds_set (hi.hold q e hA he) a v hs hb
    · rw [hget q hqj] at hf
      have hne := hi.diff j q e f hA hq (fun h => hqj h.symm) he hf ho
      have hh := hi.hold q f hq hf
      unfold Ent.holds at hh ⊢
      rw [heap_set_ne _ _ _ _ (by rw [hb]; exact fun h => hne h.symm)]
      exact hh
  · obtain ⟨k, hk, e1, e2⟩ := back q f hf
    obtain ⟨k', hk', e1', _⟩ := back q' f' hf'
    rw [← e1, ← e1']
    exact hi.diff q q' k k' hq hq' hne hk hk' (e2.trans hof)

/-- A new block, and what follows. -/
theorem Inv.new {A : Nat → Prop} {hp : List Ent} {w : World} (c : Array Value) (t : TypeId) (g : Nat) (hg : g = w.heap.size) (hi : Inv A hp w) :
    Inv (fun j => A j ∨ j = hp.length) (hp ++ [⟨g, c.toList, [], t, true⟩]) { w with heap := w.heap.push (.cells c t (0, 0)) } := by
  have hlt : ∀ (q : Nat) (f : Ent), (A q ∨ q = hp.length) → (hp ++ [(⟨g, c.toList, [], t, true⟩ : Ent)])[q]? = some f → (A q ∧ hp[q]? = some f ∧ q < hp.length) ∨ (q = hp.length ∧ f = ⟨g, c.toList, [], t, true⟩) := by
    intro q f hA hf
    rw [List.getElem?_append] at hf
    split at hf
    · rename_i hq
      rcases hA with hA | hA
      · exact .inl ⟨hA, hf, hq⟩
      · omega
    · rename_i hq
      have := lt_of_get hf
      simp at this
      have hq' : q = hp.length := by omega
      subst hq'
      simp at hf
      exact .inr ⟨rfl, hf.symm⟩
  refine ⟨fun q f hq hf => ?_, fun q q' f f' hq hq' hne hf hf' hof => ?_⟩
  · rcases hlt q f hq hf with ⟨hA, hf, _⟩ | ⟨_, rfl⟩
    · have hh := hi.hold q f hA hf
      have hl := hh.lt
      unfold Ent.holds at hh ⊢
      show (w.heap.push _)[f.g]? = _
      rw [Array.getElem?_push, if_neg (by omega)]
      exact hh
    · unfold Ent.holds
      show (w.heap.push _)[g]? = _
      rw [Array.getElem?_push, if_pos hg]
  · rcases hlt q f hq hf with ⟨hA, hf, _⟩ | ⟨e1, rfl⟩ <;> rcases hlt q' f' hq' hf' with ⟨hA', hf', _⟩ | ⟨e2, rfl⟩
    · exact hi.diff q q' f f' hA hA' hne hf hf' hof
    · have := (hi.hold q f hA hf).lt
      show f.g ≠ g
      omega
    · have := (hi.hold q' f' hA' hf').lt
      show g ≠ f'.g
      omega
    · omega

theorem Res.newStep {A : Nat → Prop} {m m' : M} {w w' : World} {lw : List Nat} {c : Array Value} {t : TypeId} {g : Nat} (hg : g = w.heap.size)
    (h : Res (fun j => A j ∨ j = m.hp.length) { m with hp := m.hp ++ [⟨g, c.toList, [], t, true⟩], n := m.n + 1, wr := m.hp.length :: m.wr } { w with heap := w.heap.push (.cells c t (0, 0)) } m' w' lw) :
    Res A m w m' w' (lw ++ [m.hp.length]) := by
  obtain ⟨h1, h2, h3, h4, h5, h6, h7, h8, h9, h10, h11, h12, h13, h14⟩ := h
  have hsz : ({ w with heap := w.heap.push (.cells c t (0, 0)) } : World).heap.size = w.heap.size + 1 := by simp
  have hlen : (m.hp ++ [(⟨g, c.toList, [], t, true⟩ : Ent)]).length = m.hp.length + 1 := by simp
  have hget : ∀ q, q < m.hp.length → (m.hp ++ [(⟨g, c.toList, [], t, true⟩ : Ent)])[q]? = m.hp[q]? := fun q hq => by
    rw [List.getElem?_append, if_pos hq]
  have hnew : (m.hp ++ [(⟨g, c.toList, [], t, true⟩ : Ent)])[m.hp.length]? = some ⟨g, c.toList, [], t, true⟩ := by simp
  refine ⟨?_, ?_, h3, h4, h5, ?_, ?_, ?_, ?_, ?_, ?_, ?_, ?_, ?_⟩
  · rw [hsz] at h1
    dsimp only at h1
    omega
  · dsimp only at h2; omega
  · refine ⟨fun j e hj he => h6.hold j e ?_ he, fun j j' e e' hj hj' => h6.diff j j' e e' ?_ ?_⟩
    · dsimp only; rw [hlen]; rcases hj with hj | hj
      · exact .inl (.inl hj)
      · by_cases hh : j = m.hp.length
        · exact .inl (.inr hh)
        · exact .inr (by omega)
    · dsimp only; rw [hlen]; rcases hj with hj | hj
      · exact .inl (.inl hj)
      · by_cases hh : j = m.hp.length
        · exact .inl (.inr hh)
        · exact .inr (by omega)
    · dsimp only; rw [hlen]; rcases hj' with hj | hj
      · exact .inl (.inl hj)
      · by_cases hh : j' = m.hp.length
        · exact .inl (.inr hh)
        · exact .inr (by omega)
  · intro b hbl hn
    rw [h7 b (by rw [hsz]; omega) (fun q hq f hf => ?_)]
    · show (w.heap.push _)[b]? = _
      rw [Array.getElem?_push, if_neg (by omega)]
    · by_cases hql : q < m.hp.length
      · rw [hget q hql] at hf
        exact hn q (by simp [hq]) f hf
      · have := lt_of_get hf
        rw [hlen] at this
        have : q = m.hp.length := by omega
        subst this
        rw [hnew] at hf
        cases hf
        show g ≠ b
        omega
  · intro q hq hnq
    simp only [List.mem_append, List.mem_singleton, not_or] at hnq
    rw [h8 q (by rw [hlen]; omega) hnq.1, hget q hq]
  · intro q f hf
    obtain ⟨f'', hf'', e3, e4⟩ := h9 q f (by rw [hget q (lt_of_get hf)]; exact hf)
    exact ⟨f'', hf'', e3, e4⟩
  · rw [hlen] at h10; omega
  · intro q f hq hf
    by_cases hql : q = m.hp.length
    · subst hql
      obtain ⟨f', hf', e3, e4⟩ := h9 _ _ hnew
      rw [hf'] at hf
      cases hf
      exact ⟨by simp, e4, by rw [e3]; show w.heap.size ≤ g; omega⟩
    · obtain ⟨k1, k2, k3⟩ := h11 q f (by rw [hlen]; omega) hf
      exact ⟨by simp [k1], k2, by rw [hsz] at k3; omega⟩
  · intro q hq f hf
    have hql := lt_of_get hf
    simp only [List.mem_append, List.mem_singleton] at hq
    rcases hq with hq | hq
    · exact h12 q hq f (by rw [hget q hql]; exact hf)
    · omega
  · intro q hq
    simp only [List.mem_append, List.mem_singleton] at hq
    rcases hq with hq | hq
    · exact h13 q hq
    · subst hq
      obtain ⟨f', hf', _, _⟩ := h9 _ _ hnew
      exact ⟨f', hf'⟩
  · intro hh; simp at hh

theorem run_store_plain {α : Type} (md : Mode) (a : Addr) (u : Value) (k : Sem α) (w : World) (h1 : ∀ c, u = .agg c → False) (h2 : ∀ c, u = .tuple c → False) :
    (Sem.store md a u k).run P w = match w.cell? a with
      | some _ => if w.frozen? a then .halt (.unsupported (.unsafePointer "a write to bytes that a string shares")) w else k.run P (w.setCell a u)
      | none => match w.farStore P a u (md == .atomic) with
        | .ok (w, _) => k.run P w
        | .error h => .halt h w := by
  cases u <;> first | exact (h1 _ rfl).elim | exact (h2 _ rfl).elim | rfl

theorem arun_sound {α : Type} (s : Sem α) : ∀ (A : Nat → Prop) (m : M) (v : α) (m' : M) (w : World), arun P γ J s m = some (v, m') → EqOk m'.E → Inv A m.hp w → (∀ j ∈ m'.rd, A j) →
    (∀ q, m.n + q < m'.n → γ (m.n + q) = w.heap.size + q) → ∃ w' lw, s.run P w = .ok v w' ∧ m'.wr = lw ++ m.wr ∧ Res A m w m' w' lw := by
  induction s with
  | pure a =>
    intro A m v m' w h _ hi _ _
    simp only [arun, Option.some.injEq, Prod.mk.injEq] at h
    obtain ⟨rfl, rfl⟩ := h
    exact ⟨w, [], rfl, rfl, Res.refl hi⟩
  | program k ih => intro A m v m' w h hE hi hA hn; exact ih _ A m v m' w h hE hi hA hn
  | mark _ k ih => intro A m v m' w h hE hi hA hn; exact ih A m v m' w h hE hi hA hn
  | load md a k ih =>
    intro A m v m' w h hE hi hA hn
    simp only [arun] at h
    split at h
    · cases h
    · rename_i j hJ
      split at h
      · cases h
      · rename_i e he
        split at h
        · rename_i u hs hc
          have hx := arun_ext _ _ _ _ h
          obtain ⟨⟨l1, e1⟩, ⟨l2, e2⟩, _⟩ := hx
          have hE1 : EqOk ((It.nat a.block, It.nat e.g) :: m.E) := EqOk.app (l := l1) (by rw [← e1]; exact hE)
          have hb := It.nat_inj hE1.cons.1
          have hAj : A j := hA j (by rw [e2]; simp)
          have hh := hi.hold j e hAj he
          obtain ⟨w', lw, hr, hw, hR⟩ := ih u A _ v m' w h hE hi hA hn
          refine ⟨w', lw, ?_, hw, ?_⟩
          · simp only [Sem.run, cell_of_holds hh a hs hb, hc]
            exact hr
          · obtain ⟨h1, h2, h3, h4, h5, h6, h7, h8, h9, h10, h11, h12, h13, h14⟩ := hR
            exact ⟨h1, h2, h3, h4, h5, h6, h7, h8, h9, h10, h11, h12, h13, h14⟩
        · cases h
  | store md a u k ih =>
    intro A m v m' w h hE hi hA hn
    simp only [arun] at h
    split at h
    · cases h
    · cases h
    · rename_i hu1 hu2
      split at h
      · cases h
      · rename_i j hJ
        split at h
        · cases h
        · rename_i e he
          split at h
          · rename_i old hs ho hc
            have hx := arun_ext _ _ _ _ h
            obtain ⟨⟨l1, e1⟩, ⟨l2, e2⟩, ⟨l3, e3⟩, _⟩ := hx
            have hE1 : EqOk ((It.nat a.block, It.nat e.g) :: m.E) := EqOk.app (l := l1) (by rw [← e1]; exact hE)
            have hb := It.nat_inj hE1.cons.1
            have hrd : j ∈ m'.rd := by rw [e2]; simp
            have hAj : A j := hA j hrd
            have hh := hi.hold j e hAj he
            have hsz : (w.setCell a u).heap.size = w.heap.size := by simp [World.setCell]
            obtain ⟨w', lw, hr, hw, hR⟩ := ih A _ v m' (w.setCell a u) h hE (hi.store hAj he ho hs hb) hA (by rw [hsz]; exact hn)
            refine ⟨w', lw ++ [j], ?_, by rw [hw]; simp, Res.store he ho hb hrd hR⟩
            rw [run_store_plain md a u k w hu1 hu2]
            simp only [cell_of_holds hh a hs hb, hc, frozen_of_holds hh a hb]
            exact hr
          · cases h
  | new o k ih =>
    intro A m v m' w h hE hi hA hn
    simp only [arun] at h
    split at h
    · rename_i c t
      have hx := arun_ext _ _ _ _ h
      have hsz : ({ w with heap := w.heap.push (.cells c t (0, 0)) } : World).heap.size = w.heap.size + 1 := by simp
      have hle : m.n < m'.n := hx.n
      have hg : γ m.n = w.heap.size := by
        have := hn 0 (by omega)
        simpa using this
      obtain ⟨w', lw, hr, hw, hR⟩ := ih (γ m.n) (fun j => A j ∨ j = m.hp.length) _ v m' { w with heap := w.heap.push (.cells c t (0, 0)) } h hE (hi.new c t _ hg) (fun j hj => .inl (hA j hj)) (by
        intro q hq
        dsimp only at hq ⊢
        have := hn (q + 1) (by omega)
        rw [hsz, show m.n + 1 + q = m.n + (q + 1) by omega, this]
        omega)
      refine ⟨w', lw ++ [m.hp.length], ?_, by rw [hw]; simp, Res.newStep hg hR⟩
      simp only [Sem.run]
      rw [← hg]
      exact hr
    · cases h
  | shape r k ih =>
    intro A m v m' w h hE hi hA hn
    simp only [arun] at h
    split at h
    · cases h
    · rename_i j hJ
      split at h
      · cases h
      · rename_i e he
        have hx := arun_ext _ _ _ _ h
        obtain ⟨⟨l1, e1⟩, ⟨l2, e2⟩, _⟩ := hx
        have hE1 : EqOk ((It.nat r, It.nat e.g) :: m.E) := EqOk.app (l := l1) (by rw [← e1]; exact hE)
        have hb := It.nat_inj hE1.cons.1
        have hAj : A j := hA j (by rw [e2]; simp)
        have hh := hi.hold j e hAj he
        obtain ⟨w', lw, hr, hw, hR⟩ := ih _ A _ v m' w h hE hi hA hn
        refine ⟨w', lw, ?_, hw, ?_⟩
        · simp only [Sem.run, hb, shape_of_holds hh]
          exact hr
        · obtain ⟨h1, h2, h3, h4, h5, h6, h7, h8, h9, h10, h11, h12, h13, h14⟩ := hR
          exact ⟨h1, h2, h3, h4, h5, h6, h7, h8, h9, h10, h11, h12, h13, h14⟩
  | frozen a k ih =>
    intro A m v m' w h hE hi hA hn
    simp only [arun] at h
    split at h
    · cases h
    · rename_i j hJ
      split at h
      · cases h
      · rename_i e he
        have hx := arun_ext _ _ _ _ h
        obtain ⟨⟨l1, e1⟩, ⟨l2, e2⟩, _⟩ := hx
        have hE1 : EqOk ((It.nat a.block, It.nat e.g) :: m.E) := EqOk.app (l := l1) (by rw [← e1]; exact hE)
        have hb := It.nat_inj hE1.cons.1
        have hAj : A j := hA j (by rw [e2]; simp)
        have hh := hi.hold j e hAj he
        obtain ⟨w', lw, hr, hw, hR⟩ := ih _ A _ v m' w h hE hi hA hn
        refine ⟨w', lw, ?_, hw, ?_⟩
        · simp only [Sem.run, frozen_of_holds hh a hb]
          exact hr
        · obtain ⟨h1, h2, h3, h4, h5, h6, h7, h8, h9, h10, h11, h12, h13, h14⟩ := hR
          exact ⟨h1, h2, h3, h4, h5, h6, h7, h8, h9, h10, h11, h12, h13, h14⟩
  | _ => intro A m v m' w h; simp [arun] at h

end Go.Ex
