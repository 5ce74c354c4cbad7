/- Steps that look into what was there when a call began, and stores to places told by numbers. No conditions but that what is told is so. -/
import Derived.Test.YtildcmggcbdhpaaLawFeld
import Derived.Laws.MakeOwn
namespace Go.Proofs.Ytildcmggcbdhpaa
open Go.Ex Go.RowKit Lim
set_option maxRecDepth 100000

/-- a call that looks at what was there -/
theorem pcW_ok {w0 : World} {f : FuncId} {args : List Value} {need : List Ent} {v : Value} (h : PureAt need f args v) (hn : ∀ e ∈ need, e.holds w0) : (pc f args v).Ok Try.prog w0 :=
  Rec.ok_call fun _ w hb _ => h w fun e he => holds_of (hn e he) (hb.below.block _ (hn e he).lt)
/-- what is read, of what was there -/
def ldW (d : Nat) (ty : TypeId) (g off : Nat) (v : Value) : Rec := .fact d (fun _ => []) (fun _ => do pure (.value (← Instr.loadAt ty (.pointer (some ⟨g, off, none⟩))))) v
theorem ldW_row {w0 : World} {d : Nat} {e : Ent} {ty : TypeId} {off : Nat} {cs : List Value} {td : TypeDesc} (he : e.holds w0) (hc : ∀ k v, cs[k]? = some v → e.cs[off + k]? = some v) (hu : Try.prog.underlying ty = some td) (hd : td.isRow = true) (hi : (Try.prog.info? ty).map (·.size) = some cs.length) :
    (ldW d ty e.g off (.agg cs.toArray)).Ok Try.prog w0 := fun _ _ hb _ => run_val (run_ld (holds_of he (hb.below.block _ he.lt)) hc hu hd hi)
theorem run_ld1 {e : Ent} {w : World} (h : e.holds w) {off : Nat} {v : Value} (hc : e.cs[off]? = some v) {ty el : TypeId} (hu : Try.prog.underlying ty = some (.slice el)) : (Instr.loadAt ty (.pointer (some ⟨e.g, off, none⟩))).run Try.prog w = .ok v w := by
  have hcell : w.cell? ⟨e.g, off, none⟩ = some v := (cell_of_holds h ⟨e.g, off, none⟩ rfl rfl).trans hc
  simp [Instr.loadAt, Instr.sureAddr, loadVar, isAgg, run_underlying hu, Sem.run_bind, load, Sem.run, hcell]
theorem ldW_one {w0 : World} {d : Nat} {e : Ent} {ty el : TypeId} {off : Nat} {v : Value} (he : e.holds w0) (hc : e.cs[off]? = some v) (hu : Try.prog.underlying ty = some (.slice el)) : (ldW d ty e.g off v).Ok Try.prog w0 := fun _ _ hb _ => run_val (run_ld1 (holds_of he (hb.below.block _ he.lt)) hc hu)

/-- cells, some of them others -/
def setL : List Value → Nat → List Value → List Value
  | cs, _, [] => cs
  | cs, o, v :: vs => setL (cs.set o v) (o + 1) vs
theorem setL_len : ∀ (vs : List Value) (cs : List Value) (o : Nat), (setL cs o vs).length = cs.length
  | [], _, _ => rfl
  | v :: vs, cs, o => by show (setL (cs.set o v) (o + 1) vs).length = _; rw [setL_len vs, List.length_set]
theorem setL_app (l : List Value) : ∀ (vs : List Value) (m : List Value) (o : Nat), setL (l ++ m) (l.length + o) vs = l ++ setL m o vs
  | [], _, _ => rfl
  | v :: vs, m, o => by
    show setL ((l ++ m).set (l.length + o) v) (l.length + o + 1) vs = l ++ setL (m.set o v) (o + 1) vs
    rw [List.set_append_right _ _ (by omega), Nat.add_sub_cancel_left, Nat.add_assoc, setL_app l vs]
theorem holds_sets : ∀ (vs : List Value) {e : Ent} {w : World} (o : Nat), e.holds w → Ent.holds { e with cs := setL e.cs o vs } (w.setCells e.g o vs)
  | [], _, _, _, h => h
  | v :: vs, e, _, o, h => holds_sets vs (e := { e with cs := e.cs.set o v }) (o + 1) (holds_set h ⟨e.g, o, none⟩ v rfl rfl)
theorem setCells_other (b : Nat) : ∀ (vs : List Value) (o : Nat) (w : World) (k : Nat), k ≠ b → (w.setCells b o vs).heap[k]? = w.heap[k]?
  | [], _, _, _, _ => rfl
  | v :: vs, o, w, k, h => (setCells_other b vs (o + 1) _ k h).trans (Below.heap_setCell w ⟨b, o, none⟩ v k h)
theorem setCells_rest (b : Nat) : ∀ (vs : List Value) (o : Nat) (w : World), (w.setCells b o vs).os = w.os ∧ (w.setCells b o vs).tape = w.tape ∧ (w.setCells b o vs).output = w.output ∧ (w.setCells b o vs).heap.size = w.heap.size
  | [], _, _ => ⟨rfl, rfl, rfl, rfl⟩
  | v :: vs, o, w => by
    obtain ⟨h1, h2, h3, h4⟩ := setCells_rest b vs (o + 1) (w.setCell ⟨b, o, none⟩ v)
    exact ⟨h1, h2, h3, h4.trans (by simp [World.setCell])⟩

/-- a store, to slot a's address -/
def stR (a : Nat) (ty : TypeId) (j : Nat) (e : Ent) (off : Nat) (v : Value) (vs : List Value) : Rec :=
  .eff (some (100000 + a)) [] (fun _ => [(j, e)]) (fun _ => do Instr.storeAt ty (.pointer (some ⟨e.g, off, none⟩)) v; pure .skip) 0 (fun _ _ => undef) (fun _ _ => [(j, { e with cs := setL e.cs off vs })]) (fun _ _ => []) .no
theorem st_ok {w0 : World} {a : Nat} {ty : TypeId} {j : Nat} {e : Ent} {off : Nat} {v : Value} {vs : List Value} (ho : e.own = true)
    (hr : ∀ w : World, e.holds w → (Instr.storeAt ty (.pointer (some ⟨e.g, off, none⟩)) v).run Try.prog w = .ok () (w.setCells e.g off vs)) : (stR a ty j e off v vs).Ok Try.prog w0 := by
  intro γ w _ hneed _
  have he := hneed _ List.mem_cons_self
  dsimp only at he
  obtain ⟨h1, h2, h3, h4⟩ := setCells_rest e.g vs off w
  refine .inr (.inl ⟨w.setCells e.g off vs, ?_, fun _ => 0, fun _ _ => rfl, rfl, ?_⟩)
  · show Sem.run Try.prog (Sem.bind (Instr.storeAt ty (.pointer (some ⟨e.g, off, none⟩)) v) fun _ => pure Next.skip) w = _
    rw [show Sem.bind (Instr.storeAt ty (.pointer (some ⟨e.g, off, none⟩)) v) (fun _ => pure Next.skip) = (Instr.storeAt ty (.pointer (some ⟨e.g, off, none⟩)) v >>= fun _ => pure Next.skip) from rfl, Sem.run_bind, hr w he]
    rfl
  · refine ⟨h1, h2, h3, by rw [h4]; exact Nat.le_refl _, fun b _ hf => setCells_other e.g vs off w b (fun hh => ?_), fun p hp => ?_, fun _ h => (by cases h), fun p hp q hq hne => ?_, fun _ _ _ h => (by cases h), List.Pairwise.nil⟩
    · exact hf _ List.mem_cons_self (by simp) hh.symm
    · simp only [List.mem_cons, List.not_mem_nil, or_false] at hp
      subst hp
      exact ⟨holds_sets vs off he, e, List.mem_cons_self, ho, .inl rfl⟩
    · simp only [List.mem_cons, List.not_mem_nil, or_false] at hp hq
      subst hp hq
      exact absurd rfl hne
theorem there_of {e : Ent} {w : World} (h : e.holds w) (ho : e.own = true) {off n : Nat} (hl : off + n ≤ e.cs.length) : w.there e.g off n := fun j hj => by
  refine ⟨?_, frozen_of_holds h ho ⟨e.g, off + j, none⟩ rfl⟩
  rw [cell_of_holds h ⟨e.g, off + j, none⟩ rfl rfl]
  show (e.cs[off + j]?).isSome = true
  rw [List.getElem?_eq_getElem (by omega)]
  rfl
/-- .. of a row -/
theorem st_row {w0 : World} {a : Nat} {ty : TypeId} {j : Nat} {e : Ent} {off : Nat} {cs : List Value} (ho : e.own = true) (hl : off + cs.length ≤ e.cs.length) (hi : (Try.prog.info? ty).map (·.size) = some cs.length) (h1 : ∀ u ∈ cs, u.oneCell' = true) :
    (stR a ty j e off (.agg cs.toArray) cs).Ok Try.prog w0 := st_ok ho fun w he => by
  have := run_storeAt_mid (P := Try.prog) w e.g off ty cs.toArray (by rw [List.size_toArray]; exact there_of he ho hl) (by rw [List.size_toArray]; exact hi) (all_oneCell_toArray h1)
  exact this
/-- .. of one cell -/
theorem st_one {w0 : World} {a : Nat} {ty : TypeId} {j : Nat} {e : Ent} {off : Nat} {v : Value} (ho : e.own = true) (hl : off < e.cs.length) (hi : (Try.prog.info? ty).map (·.size) = some 1) (hv : ∃ b, v = .bool b) : (stR a ty j e off v [v]).Ok Try.prog w0 := st_ok ho fun w he => by
  obtain ⟨b, rfl⟩ := hv
  have ht := there_of he ho (off := off) (n := 1) (by omega)
  obtain ⟨c1, c2⟩ := ht 0 (by omega)
  rw [Nat.add_zero] at c1 c2
  obtain ⟨c, hc⟩ := Option.isSome_iff_exists.1 c1
  cases hq : Try.prog.info? ty with
  | none => rw [hq] at hi; cases hi
  | some i =>
    rw [hq] at hi
    simp only [Option.map_some, Option.some.injEq] at hi
    have ea : (⟨e.g, off, none⟩ : Addr).add 0 = ⟨e.g, off, none⟩ := by rw [Addr.add_mid, Nat.add_zero]
    simp [Instr.storeAt, Instr.sureAddr, storeVar, sizeOf, typeInfo, hq, hi, Value.cells, storeCells, Sem.run_bind, store, World.setCells, ea]
    rw [run_store_plain _ _ _ _ _ (fun c h => by cases h) (fun c h => by cases h), hc]
    simp [c2]

end Go.Proofs.Ytildcmggcbdhpaa
