/- Words for the walks: numbers as values, contracts of functions that only compute. No conditions. -/
import Derived.Test.YtildcmggcbdhpaaRows
import Derived.Test.YtildcmggcbdhpaaEx
import Derived.Test.YtildcmggcbdhpaaLim
import Derived.Laws.Externs
namespace Go.Proofs.Ytildcmggcbdhpaa
open Go.Ex Go.RowKit Lim

abbrev U (n : Nat) : Value := .int .u64 (n : Int)
abbrev I (n : Int) : Value := .int .i64 n

/-- the limbs -/
def l0 (n : Nat) : Nat := n % B
def l1 (n : Nat) : Nat := n / B % B
def l2 (n : Nat) : Nat := n / B / B % B
def l3 (n : Nat) : Nat := n / B / B / B % B
def l4 (n : Nat) : Nat := n / B / B / B / B % B
def l5 (n : Nat) : Nat := n / B / B / B / B / B % B
def l6 (n : Nat) : Nat := n / B / B / B / B / B / B % B
def l7 (n : Nat) : Nat := n / B / B / B / B / B / B / B % B

def NV (n : Nat) : Value := .agg #[U (l0 n), U (l1 n), U (l2 n), U (l3 n)]
def WV (n : Nat) : Value := .agg #[U (l0 n), U (l1 n), U (l2 n), U (l3 n), U (l4 n), U (l5 n), U (l6 n), U (l7 n)]

theorem digs4 (n : Nat) : digs 4 n = [l0 n, l1 n, l2 n, l3 n] := rfl
theorem digs8 (n : Nat) : digs 8 n = [l0 n, l1 n, l2 n, l3 n, l4 n, l5 n, l6 n, l7 n] := rfl

theorem NV_mk {a b c d : Nat} (h : Dig [a, b, c, d]) : (.agg #[U a, U b, U c, U d] : Value) = NV (val [a, b, c, d]) := by
  have h1 := digs_val _ h
  rw [show [a, b, c, d].length = 4 from rfl, digs4] at h1
  simp only [List.cons.injEq, and_true] at h1
  obtain ⟨e0, e1, e2, e3⟩ := h1
  unfold NV
  rw [e0, e1, e2, e3]

theorem WV_mk {a b c d e f g h : Nat} (hd : Dig [a, b, c, d, e, f, g, h]) : (.agg #[U a, U b, U c, U d, U e, U f, U g, U h] : Value) = WV (val [a, b, c, d, e, f, g, h]) := by
  have h1 := digs_val _ hd
  rw [show [a, b, c, d, e, f, g, h].length = 8 from rfl, digs8] at h1
  simp only [List.cons.injEq, and_true] at h1
  obtain ⟨e0, e1, e2, e3, e4, e5, e6, e7⟩ := h1
  unfold WV
  rw [e0, e1, e2, e3, e4, e5, e6, e7]

def aggU (l : List Nat) : Value := .agg (l.map fun n => U n).toArray
theorem aggU_NV {l : List Nat} (h : Dig l) (hl : l.length = 4) : aggU l = NV (val l) := by
  have h1 := digs_val l h
  rw [hl] at h1
  conv => lhs; rw [← h1]
  rfl
theorem aggU_WV {l : List Nat} (h : Dig l) (hl : l.length = 8) : aggU l = WV (val l) := by
  have h1 := digs_val l h
  rw [hl] at h1
  conv => lhs; rw [← h1]
  rfl

theorem val4 (n : Nat) : val [l0 n, l1 n, l2 n, l3 n] = n % B ^ 4 := by rw [← digs4, val_digs]
theorem val8 (n : Nat) : val [l0 n, l1 n, l2 n, l3 n, l4 n, l5 n, l6 n, l7 n] = n % B ^ 8 := by rw [← digs8, val_digs]
theorem dig4 (n : Nat) : Dig [l0 n, l1 n, l2 n, l3 n] := by rw [← digs4]; exact digs_dig 4 n
theorem dig8 (n : Nat) : Dig [l0 n, l1 n, l2 n, l3 n, l4 n, l5 n, l6 n, l7 n] := by rw [← digs8]; exact digs_dig 8 n
theorem l0_lt (n : Nat) : l0 n < B := Nat.mod_lt _ B_pos
theorem l1_lt (n : Nat) : l1 n < B := Nat.mod_lt _ B_pos
theorem l2_lt (n : Nat) : l2 n < B := Nat.mod_lt _ B_pos
theorem l3_lt (n : Nat) : l3 n < B := Nat.mod_lt _ B_pos

/-- R: two to the 256. -/
def R : Nat := 115792089237316195423570985008687907853269984665640564039457584007913129639936
theorem R_eq : R = B ^ 4 := by decide

def Fx (f : Func) : Code := f.body.getD .skip

abbrev follows : Try.prog.follows .mixedOrders = true := by kernel_rfl

/-- A function that only computes: it hands back v, and nothing that was there has turned. -/
def Pure (f : FuncId) (args : List Value) (v : Value) : Prop := ∀ w : World, Calls Try.prog f args.toArray w fun e w' => e = .returned v ∧ Below w.heap.size w w'

/-- .. and looks at blocks that it is handed. -/
def PureAt (need : List Ent) (f : FuncId) (args : List Value) (v : Value) : Prop := ∀ w : World, (∀ e ∈ need, e.holds w) → Calls Try.prog f args.toArray w fun e w' => e = .returned v ∧ Below w.heap.size w w'

def RecsOk (w : World) : List Rec → Prop
  | [] => True
  | r :: l => r.Ok Try.prog w ∧ RecsOk w l

theorem RecsOk.all {w : World} : ∀ {l : List Rec}, RecsOk w l → ∀ r ∈ l, r.Ok Try.prog w
  | [], _, _, h => by cases h
  | _ :: _, hl, r, h => by
    rcases List.mem_cons.1 h with rfl | h
    · exact hl.1
    · exact hl.2.all r h

theorem RecsOk.append {w : World} : ∀ {l m : List Rec}, RecsOk w l → RecsOk w m → RecsOk w (l ++ m)
  | [], _, _, h => h
  | _ :: _, _, h, hm => ⟨h.1, h.2.append hm⟩

/-- a call that only computes -/
def pc (f : FuncId) (args : List Value) (v : Value) : Rec := .call f (fun _ => args) (fun _ => []) 0 (fun _ => v) (fun _ => []) .no
theorem pc_ok {w : World} {f : FuncId} {args : List Value} {v : Value} (h : Pure f args v) : (pc f args v).Ok Try.prog w := Rec.ok_call fun _ w _ _ => h w

/-- .. and looks at blocks, by their places -/
def mc (f : FuncId) (args : List Value) (need : List (Nat × Ent)) (v : Value) : Rec := .call f (fun _ => args) (fun _ => need) 0 (fun _ => v) (fun _ => []) .no
theorem mc_ok {w : World} {f : FuncId} {args : List Value} {need : List (Nat × Ent)} {v : Value} (h : PureAt (need.map (·.2)) f args v) : (mc f args need v).Ok Try.prog w :=
  Rec.ok_call fun _ w _ hn => h w fun e he => by
    rw [List.mem_map] at he
    obtain ⟨p, hp, rfl⟩ := he
    exact hn p hp

/-- .. and blocks that the caller itself has made, by where they lie -/
def lc (f : FuncId) (args : (Nat → Nat) → List Value) (need : (Nat → Nat) → List (Nat × Ent)) (v : Value) : Rec := .call f args need 0 (fun _ => v) (fun _ => []) .no
theorem lc_ok {w : World} {f : FuncId} {args : (Nat → Nat) → List Value} {need : (Nat → Nat) → List (Nat × Ent)} {v : Value} (h : ∀ σ, PureAt ((need σ).map (·.2)) f (args σ) v) : (lc f args need v).Ok Try.prog w :=
  Rec.ok_call fun σ w _ hn => h σ w fun e he => by
    rw [List.mem_map] at he
    obtain ⟨p, hp, rfl⟩ := he
    exact hn p hp

theorem Pure.at {f : FuncId} {args : List Value} {v : Value} (h : Pure f args v) (need : List Ent) : PureAt need f args v := fun w _ => h w

/-- what is looked at alone counts -/
theorem PureAt.of {need need' : List Ent} {f : FuncId} {args : List Value} {v : Value} (h : PureAt need f args v) (hn : ∀ w : World, (∀ e ∈ need', e.holds w) → ∀ e ∈ need, e.holds w) : PureAt need' f args v :=
  fun w hw => h w (hn w hw)

theorem pure_of {f : FuncId} {fn : Func} (hf : Try.prog.funcs[f]? = some fn) (hb : fn.body = some (Fx fn)) (K : Nat) (args : List Value) (recs : List Rec) (v : Value) (hrecs : ∀ w, RecsOk w recs)
    (heq : ∀ γ : Nat → Nat, outL Try.prog fn.results.toList [] (exec Try.prog (Fx fn) ⟨Ex.start fn.ntmps (args.map (·, Tag.no)) [], (List.range K).map γ, recs, []⟩) = outR Try.prog fn.results.toList [] v (exec Try.prog (Fx fn) ⟨Ex.start fn.ntmps (args.map (·, Tag.no)) [], (List.range K).map γ, recs, []⟩)) :
    Pure f args v := fun w => by
  have h := calls0 hf hb follows K (args.map (·, Tag.no)) [] recs v w (fun e he => by cases he) (hrecs w).all heq
  rw [List.map_map] at h
  have e : args.map ((·.1) ∘ fun x => (x, Tag.no)) = args := by
    rw [show ((·.1) ∘ fun x : Value => (x, Tag.no)) = id from rfl, List.map_id]
  rw [e] at h
  exact h

theorem pureAt_of {f : FuncId} {fn : Func} (hf : Try.prog.funcs[f]? = some fn) (hb : fn.body = some (Fx fn)) (K : Nat) (args : List (Value × Tag)) (need : List Ent) (recs : List Rec) (v : Value) (ho : need.all (fun e => !e.own) = true) (hrecs : ∀ w, RecsOk w recs)
    (heq : ∀ γ : Nat → Nat, outL Try.prog fn.results.toList [] (exec Try.prog (Fx fn) ⟨Ex.start fn.ntmps args need, (List.range K).map γ, recs, []⟩) = outR Try.prog fn.results.toList [] v (exec Try.prog (Fx fn) ⟨Ex.start fn.ntmps args need, (List.range K).map γ, recs, []⟩)) :
    PureAt need f (args.map (·.1)) v := fun w hn =>
  calls0 hf hb follows K args need recs v w (fun e he => ⟨by
    rw [List.all_eq_true] at ho
    simpa using ho e he, hn e he⟩) (hrecs w).all heq

/-- 'bits.Add64': the model's own. -/
theorem add64_run (x y c : Nat) (hc : c ≤ 1) (w : World) :
    (callFunc 131 #[U x, U y, U c]).run Try.prog w = .ok (.value (.tuple #[U ((x + y + c) % B), U ((x + y + c) / B)])) w := by
  rw [run_callFunc_extern Try.func131 (by kernel_rfl) (by kernel_rfl) (by kernel_rfl) (e := add64Entry) (by kernel_rfl), run_add64 x y c (by omega) (by omega) (by omega) (by omega)]
  simp only [Result.andThen]
  unfold B
  congr 5 <;> omega

def sub64Entry : Array Value → Sem Value := fun args => do
  let (x, y, b) ← Extern.MathBitsCarry.three "Sub64" args
  pure (Extern.MathBitsCarry.pair ((x + Extern.MathBitsCarry.m64 - y - b) % Extern.MathBitsCarry.m64) (if x < y + b then 1 else 0))

theorem sub64_run (x y c : Nat) (hc : c ≤ 1) (w : World) :
    (callFunc 134 #[U x, U y, U c]).run Try.prog w = .ok (.value (.tuple #[U ((x + B - y - c) % B), U (if x < y + c then 1 else 0)])) w := by
  have h : (sub64Entry #[U x, U y, U c]).run Try.prog w = .ok (.tuple #[U ((x + B - y - c) % B), U (if x < y + c then 1 else 0)]) w := by
    have : c = 0 ∨ c = 1 := by omega
    rcases this with rfl | rfl <;> rfl
  rw [run_callFunc_extern Try.func134 (by kernel_rfl) (by kernel_rfl) (by kernel_rfl) (e := sub64Entry) (by kernel_rfl), h]
  rfl

/-- .. in slot d -/
def addF (d x y c : Nat) : Rec := .fact d (fun _ => []) (fun _ => callFunc 131 #[U x, U y, U c]) (.tuple #[U ((x + y + c) % B), U ((x + y + c) / B)])
def subF (d x y c : Nat) : Rec := .fact d (fun _ => []) (fun _ => callFunc 134 #[U x, U y, U c]) (.tuple #[U ((x + B - y - c) % B), U (if x < y + c then 1 else 0)])
theorem addF_ok {w0 : World} {d x y c : Nat} (hc : c ≤ 1) : (addF d x y c).Ok Try.prog w0 := fun _ w _ _ => add64_run x y c hc w
theorem subF_ok {w0 : World} {d x y c : Nat} (hc : c ≤ 1) : (subF d x y c).Ok Try.prog w0 := fun _ w _ _ => sub64_run x y c hc w

/-- what slot d holds, by another name -/
def rn (d : Nat) (X V : Value) : Rec := .fact d (fun _ => []) (fun _ => pure (.value X)) V
theorem rn_ok {w0 : World} {d : Nat} {X V : Value} (h : X = V) : (rn d X V).Ok Try.prog w0 := fun _ _ _ _ => by rw [h]; rfl

end Go.Proofs.Ytildcmggcbdhpaa
