/- A symbolic run of a function's code over named cells, and that it tells the truth of the model's run. No conditions. The symbolic run of one operation's tree tells the truth. No conditions. One operation of the symbolic run tells the truth. No conditions. A region of the symbolic run tells the truth, in whatever order its operations come. No conditions. The symbolic run of a function's code tells the truth: from one equation to a contract. No conditions. From one equation over the symbolic run to a function's contract. No conditions. Loops of the symbolic run, by what holds at each round's head. No conditions. Slices in the symbolic run: elements by an index that is not a literal, append. No conditions but that what is told of types is so. -/
import Derived.WalkKit
import Derived.Orders
import Derived.LoopN
import Derived.Laws.AppendOwn
import Derived.Laws.Entries
import Derived.Deep.MidRow
namespace Go.Ex
open Go.RowKit

inductive Tag where
  | no
  | at_ (j : Nat)
  | tup (ts : List Tag)

/-- A block that is known whole. -/
structure Ent where
  g : Nat
  cs : List Value
  tg : List Tag
  t : TypeId
  own : Bool

/-- What must be equal. -/
inductive It where
  | nat (n : Nat)
  | val (v : Value)
  | vals (l : List Value)
  | sem (s : Sem Next)
  | ent (e : Option Ent)
  | oval (v : Option Value)
  | code (c : Code)

/-- The state of a run of one operation. -/
structure M where
  hp : List Ent
  n : Nat
  c : Nat
  E : List (It × It)
  rd : List Nat
  wr : List Nat

def arun {α : Type} (P : Program) (γ : Nat → Nat) (J : Nat → Option Nat) : Sem α → M → Option (α × M)
  | .pure a, m => some (a, m)
  | .program k, m => arun P γ J (k P) m
  | .mark _ k, m => arun P γ J k m
  | .load _ a k, m =>
    match J m.c with
    | none => none
    | some j =>
      match m.hp[j]? with
      | none => none
      | some e =>
        match a.spot, e.cs[a.off]? with
        | none, some v => arun P γ J (k v) { m with c := m.c + 1, E := (.nat a.block, .nat e.g) :: m.E, rd := j :: m.rd }
        | _, _ => none
  | .store _ a v k, m =>
    match v with
    | .agg _ => none
    | .tuple _ => none
    | v =>
      match J m.c with
      | none => none
      | some j =>
        match m.hp[j]? with
        | none => none
        | some e =>
          match a.spot, e.own, e.cs[a.off]? with
          | none, true, some _ => arun P γ J k { m with c := m.c + 1, hp := m.hp.set j { e with cs := e.cs.set a.off v }, E := (.nat a.block, .nat e.g) :: m.E, rd := j :: m.rd, wr := j :: m.wr }
          | _, _, _ => none
  | .new o k, m =>
    match o with
    | .cells c t (0, 0) => arun P γ J (k (γ m.n)) { m with hp := m.hp ++ [⟨γ m.n, c.toList, [], t, true⟩], n := m.n + 1, wr := m.hp.length :: m.wr }
    | _ => none
  | .shape r k, m =>
    match J m.c with
    | none => none
    | some j =>
      match m.hp[j]? with
      | none => none
      | some e => arun P γ J (k (some (e.t, e.cs.length))) { m with E := (.nat r, .nat e.g) :: m.E, rd := j :: m.rd }
  | .frozen a k, m =>
    match J m.c with
    | none => none
    | some j =>
      match m.hp[j]? with
      | none => none
      | some e =>
        match e.own with
        | true => arun P γ J (k false) { m with E := (.nat a.block, .nat e.g) :: m.E, rd := j :: m.rd }
        | false => none
  | _, _ => none

structure St where
  fr : List (Option Value)
  tg : List Tag
  hp : List Ent

inductive Out where
  | normal
  | exit (id : Nat)
  | ret

/-- What is told from outside: a call and what it answers; an operation and what it answers. -/
inductive Rec where
  | call (f : FuncId) (args : (Nat → Nat) → List Value) (need : (Nat → Nat) → List (Nat × Ent)) (k : Nat) (val : (Nat → Nat) → Value) (news : (Nat → Nat) → List Ent) (tag : Tag)
  | fact (d : Nat) (need : (Nat → Nat) → List (Nat × Ent)) (s : (Nat → Nat) → Sem Next) (v : Value)
  | codeN (c : Code) (k : Nat) (pre : List Nat → St) (post : List Nat → (Nat → Nat) → St) (out : Out)
  | eff (d : Option Nat) (deep : List Nat) (need : (Nat → Nat) → List (Nat × Ent)) (s : (Nat → Nat) → Sem Next) (k : Nat) (val : (Nat → Nat) → (Nat → Nat) → Value) (upd : (Nat → Nat) → (Nat → Nat) → List (Nat × Ent)) (news : (Nat → Nat) → (Nat → Nat) → List Ent) (tag : Tag)

/-- A loop that makes nothing that is handed on. -/
abbrev Rec.code (c : Code) (pre post : List Nat → St) (out : Out) : Rec := .codeN c 0 pre (fun gl _ => post gl) out

/-- One operation's doing. -/
structure Actn where
  i : Nat
  rs : List (Nat × Value)
  ws : Option (Nat × Value)
  rh : List (Nat × Ent)
  wh : List (Nat × Ent)
  al : Nat × Nat
  rc : Nat

/-- The state within a region. -/
structure G where
  st : St
  n : Nat
  recs : List Rec
  E : List (It × It)
  acts : List Actn

def slot (fr : List (Option Value)) (t : Nat) : Option Value := (fr[t]?).bind id

def ev (fr : List (Option Value)) : Operand → Value
  | .tmp t => (slot fr t).getD undef
  | .const v => v
  | .global g => .pointer (some ⟨g, 0, none⟩)
  | .func f => .func (.func f) #[] #[]

def tmpsOf (o : Oper) : List Nat := o.op.operands.toList.filterMap fun | .tmp t => some t | _ => none

def readSlots (fr : List (Option Value)) : List Nat → Option (List (Nat × Value))
  | [] => some []
  | t :: ts => match slot fr t, readSlots fr ts with
    | some v, some l => some ((t, v) :: l)
    | _, _ => none

def readEnts (hp : List Ent) : List Nat → Option (List (Nat × Ent))
  | [] => some []
  | j :: js => match hp[j]?, readEnts hp js with
    | some e, some l => some ((j, e) :: l)
    | _, _ => none

/-- The block that the first operand with one points into. -/
def tagOf (tg : List Tag) : List Nat → Option Nat
  | [] => none
  | t :: ts => match tg[t]? with
    | some (.at_ j) => some j
    | _ => tagOf tg ts

def setSlot (fr : List (Option Value)) (d : Option Nat) (v : Value) : List (Option Value) :=
  match d with
  | none => fr
  | some d => fr.set d (some v)

def setTag (tg : List Tag) (d : Option Nat) (x : Tag) : List Tag :=
  match d with
  | none => tg
  | some d => tg.set d x

/-- A tag for what an operation yields: a guess that the equations check. -/
def outTag (o : Oper) (st : St) (len : Nat) : Tag :=
  match o.op with
  | .alloc _ | .box _ _ | .buildSlice _ _ _ | .makeSlice _ _ _ => .at_ len
  | .load _ _ =>
    match tagOf st.tg (tmpsOf o) with
    | some j => match st.hp[j]?, (tmpsOf o).head?.bind (slot st.fr) with
      | some e, some (.pointer (some a)) => (e.tg[a.off]?).getD .no
      | _, _ => .no
    | none => .no
  | .extract (.tmp t) i =>
    match st.tg[t]? with
    | some (.tup ts) => (ts[i]?).getD .no
    | _ => .no
  | _ => match tagOf st.tg (tmpsOf o) with
    | some j => .at_ j
    | none => .no

def finish (g : G) (o : Oper) (i : Nat) (rs : List (Nat × Value)) (v : Value) (tag : Tag) (hp : List Ent) (n : Nat) (recs : List Rec) (E : List (It × It)) (rh wh : List (Nat × Ent)) (rc : Nat) : G :=
  { st := { fr := setSlot g.st.fr o.dst v, tg := setTag g.st.tg o.dst tag, hp := hp }, n := n, recs := recs, E := E,
    acts := ⟨i, rs, o.dst.map (·, v), rh, wh, (g.n, n - g.n), rc⟩ :: g.acts }

/-- Is the operation wanted? none: not known. -/
def wants (ops : List Oper) (fr : List (Option Value)) (o : Oper) : Option (Bool × List Nat) :=
  match o.guard with
  | none => some (true, [])
  | some (j, want) =>
    match (ops[j]?).bind (·.dst) with
    | none => some (false, [])
    | some d => match slot fr d with
      | none => none
      | some (.bool b) => some (b == want, [d])
      | some _ => some (false, [d])

def dstOk : Option Nat → Nat → Bool
  | none, _ => true
  | some d, n => Nat.blt d n

def isSel : Op → Bool
  | .select _ _ => true
  | _ => false

def number : Nat → List Ent → List (Nat × Ent)
  | _, [] => []
  | n, e :: l => (n, e) :: number (n + 1) l

def eqs (need : List (Nat × Ent)) (hp : List Ent) : List (It × It) := need.map fun (j, e) => (.ent hp[j]?, .ent (some e))

/-- where the known blocks lie -/
def addr (hp : List Ent) (i : Nat) : Nat := match hp[i]? with
  | some e => e.g
  | none => 0

def run1 (P : Program) (γ : Nat → Nat) (o : Oper) (i : Nat) (rs : List (Nat × Value)) (g : G) : Option G :=
  let s := execOp (ev g.st.fr) o
  match arun P γ (fun _ => tagOf g.st.tg (tmpsOf o)) s ⟨g.st.hp, g.n, 0, g.E, [], []⟩ with
  | none => none
  | some (nx, m) =>
    match nx with
    | .value v =>
      match readEnts g.st.hp m.rd, readEnts m.hp m.wr with
      | some rh, some wh => some (finish g o i rs v (outTag o g.st g.st.hp.length) m.hp m.n g.recs m.E rh wh 0)
      | _, _ => none
    | .skip =>
      match readEnts g.st.hp m.rd, readEnts m.hp m.wr with
      | some rh, some wh => some (finish g o i rs undef .no m.hp m.n g.recs m.E rh wh 0)
      | _, _ => none
    | .enter f args =>
      match m.wr, m.rd, g.recs with
      | [], [], .call f' args' need k val news tag :: recs =>
        let δ := fun q => if q < k then γ (g.n + q) else 0
        let ns := news δ
        some (finish g o i rs (val δ) tag (g.st.hp ++ ns) (g.n + k) recs
          ((.nat f, .nat f') :: (.vals args.toList, .vals (args' (addr g.st.hp))) :: (eqs (need (addr g.st.hp)) g.st.hp ++ m.E)) (need (addr g.st.hp)) (number g.st.hp.length ns) (2 * g.recs.length + 2))
      | _, _, _ => none
    | _ => none

def setAll (hp : List Ent) : List (Nat × Ent) → List Ent
  | [] => hp
  | (j, e) :: l => (setAll hp l).set j e

/-- the block that a value leads to -/
def blk : Value → Nat
  | .pointer (some a) => a.block
  | .slice (some a) _ _ => a.block
  | .func _ first captured =>
    match (captured.toList ++ first.toList).head? with
    | some (Value.pointer (some a)) => a.block
    | _ => 0
  | _ => 0

/-- what of a value is asked: the block that it leads to, its capacity, where it begins -/
def kf (k : Nat) : Option Value → Nat
  | some (.slice a n c) => match k with
    | 0 => blk (.slice a n c)
    | 1 => c
    | _ => match a with
      | some a => a.off
      | none => 0
  | some v => match k with
    | 0 => blk v
    | _ => 0
  | none => 0

/-- the blocks of operands that are looked into -/
def deepEnts (st : St) (ts : List Nat) : List Nat → Option (List (Nat × Nat × Ent))
  | [] => some []
  | i :: l =>
    match (ts[i]?).bind fun t => st.tg[t]? with
    | some (.at_ j) =>
      match st.hp[j]?, deepEnts st ts l with
      | some e, some r => some ((i, j, e) :: r)
      | _, _ => none
    | _ => none

def opA (sl : Nat → Option Value) (ts : List Nat) (k i : Nat) : Nat := kf k ((ts[i]?).bind sl)

def deepB : List (Nat × Nat × Ent) → Nat → Nat → Nat → Nat
  | [], _, _, _ => 0
  | (i, _, e) :: l, q, k, c => if i = k then kf q e.cs[c]? else deepB l q k c

/-- where the operands lie, and what they lead to: number 10000 k + i: of operand i; 10000 k + 100 (i + 1) + c: of cell c of the block that operand i leads to -/
def opσ (sl : Nat → Option Value) (ts : List Nat) (ls : List (Nat × Nat × Ent)) (n : Nat) : Nat :=
  if n % 10000 < 100 then opA sl ts (n / 10000) (n % 10000) else deepB ls (n / 10000) (n % 10000 / 100 - 1) (n % 100)

def isCall : Op → Bool
  | .call _ => true
  | _ => false

def storeAt : Op → Option Nat
  | .store _ (.tmp a) _ => some a
  | _ => none

/-- Is this the operation that is told of? (100000 + a: the store to slot a's address) -/
def effAt (d : Option Nat) (o : Oper) : Bool :=
  match d with
  | some d => match o.dst with
    | some d' => d == d'
    | none => match storeAt o.op with
      | some a => d == 100000 + a
      | none => false
  | none => match o.dst with
    | some _ => false
    | none => isCall o.op

def step1 (P : Program) (γ : Nat → Nat) (ops : List Oper) (o : Oper) (i : Nat) (g : G) : Option G :=
  if isSel o.op || !dstOk o.dst g.st.fr.length then none else
  match wants ops g.st.fr o with
  | none => none
  | some (false, ds) =>
    match readSlots g.st.fr ds with
    | some rs => some (finish g o i rs undef .no g.st.hp g.n g.recs g.E [] [] 0)
    | none => none
  | some (true, ds) =>
    match readSlots g.st.fr (ds ++ tmpsOf o) with
    | none => none
    | some rs =>
      match g.recs with
      | .fact d need s v :: recs =>
        match o.dst with
        | some d' =>
          if d == d' then
            some (finish g o i rs v .no g.st.hp g.n recs ((.sem (execOp (ev g.st.fr) o), .sem (s (addr g.st.hp))) :: (eqs (need (addr g.st.hp)) g.st.hp ++ g.E)) (need (addr g.st.hp)) [] (2 * g.recs.length + 1))
          else run1 P γ o i rs g
        | none => run1 P γ o i rs g
      | .eff d deep need s k val upd news tag :: recs =>
        if effAt d o then
          match deepEnts g.st (tmpsOf o) deep with
          | none => none
          | some ls =>
            let σ := opσ (slot g.st.fr) (tmpsOf o) ls
            let δ := fun q => if q < k then γ (g.n + q) else 0
            let us := upd σ δ
            let ns := news σ δ
            if us.all (fun p => Nat.blt p.1 g.st.hp.length) then
              some (finish g o i rs (val σ δ) tag (setAll g.st.hp us ++ ns) (g.n + k) recs ((.sem (execOp (ev g.st.fr) o), .sem (s σ)) :: (ls.map (fun p => (.nat p.2.2.g, .nat (opA (slot g.st.fr) (tmpsOf o) 0 p.1))) ++ (eqs (need σ) g.st.hp ++ g.E)))
                (need σ ++ ls.map (fun p => (p.2.1, p.2.2))) (us ++ number g.st.hp.length ns) (2 * g.recs.length + 2))
            else none
        else run1 P γ o i rs g
      | _ => run1 P γ o i rs g

def stepsR (P : Program) (γ : Nat → Nat) (ops : List Oper) : List Oper → Nat → G → Option G
  | [], _, g => some g
  | o :: rest, i, g => match step1 P γ ops o i g with
    | none => none
    | some g' => stepsR P γ ops rest (i + 1) g'

/-- What must be the same whatever the numbers: the operation, its numbers, what it takes from outside. -/
def keyOf (a : Actn) : Nat × Nat × Nat × Nat := (a.i, a.al.1, a.al.2, a.rc)

def hits (l : List Nat) (m : List Nat) : Bool := l.any fun x => m.any fun y => x == y

/-- Neither of two operations touches what the other reads or writes. -/
def apart (a b : Actn) : Bool :=
  let wa := a.ws.toList.map (·.1)
  let wb := b.ws.toList.map (·.1)
  let ha := a.wh.map (·.1)
  let hb := b.wh.map (·.1)
  !hits wa (b.rs.map (·.1) ++ wb) && !hits wb (a.rs.map (·.1)) && !hits ha (b.rh.map (·.1) ++ hb) && !hits hb (a.rh.map (·.1))

/-- Each of two operations that no edge orders leaves the other alone (the list: the last first). -/
def freeB (ops : List Oper) : List Actn → Bool
  | [] => true
  | r :: l => (l.all fun b => apart b r || match ops[r.i]? with
      | some o => o.after.toList.any fun e => Region.binds .any e && e.on == b.i
      | none => false) && freeB ops l

/-- Edges that bind lead back. -/
def edgesOk (ops : List Oper) : Bool := ops.zipIdx.all fun (o, i) => o.after.toList.all fun e => !Region.binds .any e || Nat.blt e.on i

structure S where
  st : St
  gs : List Nat
  recs : List Rec
  E : List (It × It)

def region (P : Program) (ops : List Oper) (draw : Bool) (s : S) : Option S :=
  match stepsR P (fun _ => 0) ops ops 0 ⟨s.st, 0, s.recs, [], []⟩ with
  | none => none
  | some g0 =>
    if s.gs.length < g0.n then none else
    let δ := s.gs.take g0.n
    match stepsR P (fun i => δ.getD i 0) ops ops 0 ⟨s.st, 0, s.recs, s.E, []⟩ with
    | none => none
    | some g =>
      if (g.acts.map keyOf) == (g0.acts.map keyOf) && (!draw || (freeB ops g.acts && edgesOk ops)) then
        some { st := g.st, gs := s.gs.drop g0.n, recs := g.recs, E := g.E }
      else none

def iter (f : S → Option (Out × S)) : Nat → S → Option (Out × S)
  | 0, _ => none
  | n + 1, s => match f s with
    | some (.normal, s') => iter f n s'
    | r => r

/-- What must be equal where a state is as another says. -/
def chkSlots (fr : List (Option Value)) : Nat → List (Option Value) → List (It × It)
  | _, [] => []
  | t, none :: l => chkSlots fr (t + 1) l
  | t, some v :: l => (.oval (slot fr t), .oval (some v)) :: chkSlots fr (t + 1) l

def chk (want st : St) : List (It × It) := (.nat want.fr.length, .nat st.fr.length) :: (chkSlots st.fr 0 want.fr ++ eqs (number 0 want.hp) st.hp)

def exec (P : Program) : Code → S → Option (Out × S)
  | .skip, s => some (.normal, s)
  | .region _ ops draw, s => match region P ops.toList draw s with
    | some s' => some (.normal, s')
    | none => none
  | .seq a b, s => match exec P a s with
    | some (.normal, s') => exec P b s'
    | r => r
  | .cond c a b, s => match ev s.st.fr c with
    | .bool true => exec P a s
    | .bool false => exec P b s
    | _ => none
  | .block id c, s => match exec P c s with
    | some (.exit i, s') => if i == id then some (.normal, s') else some (.exit i, s')
    | r => r
  | .loop c, s =>
    match s.recs with
    | .codeN c' k pre post out :: recs =>
      if s.gs.length < k then none else
      let gl := s.st.hp.map fun e => e.g
      let p := post gl (fun q => (s.gs.take k).getD q 0)
      some (out, ⟨p, s.gs.drop k, recs, (.code c, .code c') :: (.nat p.fr.length, .nat s.st.fr.length) :: (chk (pre gl) s.st ++ s.E)⟩)
    | _ => iter (exec P c) 1000 s
  | .exit id, s => some (.exit id, s)
  | .ret, s => some (.ret, s)
  | _, _ => none

end Go.Ex

namespace Go.Ex
open Go.RowKit

def Ent.holds (e : Ent) (w : World) : Prop := ∃ fr : Nat × Nat, w.heap[e.g]? = some (.cells e.cs.toArray e.t fr) ∧ (e.own = true → fr = (0, 0))

theorem Ent.holds.weak {e e' : Ent} {w : World} (h : e.holds w) (h1 : e'.g = e.g) (h2 : e'.cs = e.cs) (h3 : e'.t = e.t) (h4 : e'.own = false) : e'.holds w := by
  obtain ⟨fr, h5, _⟩ := h
  exact ⟨fr, by rw [h1, h2, h3]; exact h5, fun h => by rw [h4] at h; cases h⟩

theorem Ent.holds.lt {e : Ent} {w : World} (h : e.holds w) : e.g < w.heap.size := by
  rcases Nat.lt_or_ge e.g w.heap.size with hlt | hge
  · exact hlt
  · obtain ⟨fr, h, _⟩ := h; rw [Array.getElem?_eq_none hge] at h; cases h

def EqOk (E : List (It × It)) : Prop := E.map (·.1) = E.map (·.2)

theorem EqOk.cons {p : It × It} {E : List (It × It)} (h : EqOk (p :: E)) : p.1 = p.2 ∧ EqOk E := by
  simp only [EqOk, List.map_cons, List.cons.injEq] at h
  exact h

theorem EqOk.app {l E : List (It × It)} (h : EqOk (l ++ E)) : EqOk E := by
  induction l with
  | nil => exact h
  | cons p l ih => exact ih h.cons.2

theorem EqOk.left {l E : List (It × It)} (h : EqOk (l ++ E)) : EqOk l := by
  induction l with
  | nil => rfl
  | cons p l ih =>
    have h1 := h.cons
    have h2 := ih h1.2
    simp only [EqOk, List.map_cons] at h2 ⊢
    rw [h1.1, h2]

theorem It.nat_inj {a b : Nat} (h : It.nat a = It.nat b) : a = b := by injection h

/-- What the run adds to its lists. -/
structure Ext (m m' : M) : Prop where
  E : ∃ l, m'.E = l ++ m.E
  rd : ∃ l, m'.rd = l ++ m.rd
  wr : ∃ l, m'.wr = l ++ m.wr
  n : m.n ≤ m'.n

theorem Ext.refl (m : M) : Ext m m := ⟨⟨[], rfl⟩, ⟨[], rfl⟩, ⟨[], rfl⟩, Nat.le_refl _⟩
theorem Ext.step {m m1 m' : M} (h : Ext m1 m') (hE : ∃ l, m1.E = l ++ m.E) (hr : ∃ l, m1.rd = l ++ m.rd) (hw : ∃ l, m1.wr = l ++ m.wr) (hn : m.n ≤ m1.n) : Ext m m' := by
  obtain ⟨⟨l1, e1⟩, ⟨l2, e2⟩, ⟨l3, e3⟩, h4⟩ := h
  obtain ⟨k1, f1⟩ := hE
  obtain ⟨k2, f2⟩ := hr
  obtain ⟨k3, f3⟩ := hw
  exact ⟨⟨l1 ++ k1, by rw [e1, f1, List.append_assoc]⟩, ⟨l2 ++ k2, by rw [e2, f2, List.append_assoc]⟩, ⟨l3 ++ k3, by rw [e3, f3, List.append_assoc]⟩, Nat.le_trans hn h4⟩

variable {P : Program} {γ : Nat → Nat} {J : Nat → Option Nat}

theorem arun_ext {α : Type} (s : Sem α) : ∀ (m : M) (v : α) (m' : M), arun P γ J s m = some (v, m') → Ext m m' := by
  induction s with
  | pure a => intro m v m' h; simp only [arun, Option.some.injEq, Prod.mk.injEq] at h; rw [← h.2]; exact Ext.refl m
  | program k ih => intro m v m' h; exact ih _ m v m' h
  | mark _ k ih => intro m v m' h; exact ih m v m' h
  | load md a k ih =>
    intro m v m' h
    simp only [arun] at h
    split at h
    · cases h
    · split at h
      · cases h
      · split at h
        · exact (ih _ _ _ _ h).step ⟨[_], rfl⟩ ⟨[_], rfl⟩ ⟨[], rfl⟩ (Nat.le_refl _)
        · cases h
  | store md a u k ih =>
    intro m v m' h
    simp only [arun] at h
    split at h
    · cases h
    · cases h
    · split at h
      · cases h
      · split at h
        · cases h
        · split at h
          · exact (ih _ _ _ h).step ⟨[_], rfl⟩ ⟨[_], rfl⟩ ⟨[_], rfl⟩ (Nat.le_refl _)
          · cases h
  | new o k ih =>
    intro m v m' h
    simp only [arun] at h
    split at h
    · exact (ih _ _ _ _ h).step ⟨[], rfl⟩ ⟨[], rfl⟩ ⟨[_], rfl⟩ (Nat.le_succ _)
    · cases h
  | shape r k ih =>
    intro m v m' h
    simp only [arun] at h
    split at h
    · cases h
    · split at h
      · cases h
      · exact (ih _ _ _ _ h).step ⟨[_], rfl⟩ ⟨[_], rfl⟩ ⟨[], rfl⟩ (Nat.le_refl _)
  | frozen r k ih =>
    intro m v m' h
    simp only [arun] at h
    split at h
    · cases h
    · split at h
      · cases h
      · split at h
        · exact (ih _ _ _ _ h).step ⟨[_], rfl⟩ ⟨[_], rfl⟩ ⟨[], rfl⟩ (Nat.le_refl _)
        · cases h
  | _ => intro m v m' h; simp [arun] at h

/-- What of the heap's list is turned. -/
structure Shp (m m' : M) (lw : List Nat) : Prop where
  wr : m'.wr = lw ++ m.wr
  keep : ∀ j : Nat, j < m.hp.length → j ∉ lw → m'.hp[j]? = m.hp[j]?
  len : m.hp.length ≤ m'.hp.length
  new : ∀ j : Nat, m.hp.length ≤ j → j < m'.hp.length → j ∈ lw
  nil : lw = [] → m'.n = m.n ∧ m'.hp = m.hp

theorem Shp.refl (m : M) : Shp m m [] := ⟨rfl, fun _ _ _ => rfl, Nat.le_refl _, fun j h1 h2 => by omega, fun _ => ⟨rfl, rfl⟩⟩

theorem arun_shp {α : Type} (s : Sem α) : ∀ (m : M) (v : α) (m' : M), arun P γ J s m = some (v, m') → ∃ lw, Shp m m' lw := by
  induction s with
  | pure a => intro m v m' h; simp only [arun, Option.some.injEq, Prod.mk.injEq] at h; rw [← h.2]; exact ⟨[], Shp.refl m⟩
  | program k ih => intro m v m' h; exact ih _ m v m' h
  | mark _ k ih => intro m v m' h; exact ih m v m' h
  | load md a k ih =>
    intro m v m' h
    simp only [arun] at h
    split at h
    · cases h
    · split at h
      · cases h
      · split at h
        · obtain ⟨lw, h1, h2, h3, h4, h5⟩ := ih _ _ _ _ h
          exact ⟨lw, h1, h2, h3, h4, h5⟩
        · cases h
  | store md a u k ih =>
    intro m v m' h
    simp only [arun] at h
    split at h
    · cases h
    · cases h
    · split at h
      · cases h
      · rename_i j _
        split at h
        · cases h
        · split at h
          · obtain ⟨lw, h1, h2, h3, h4, h5⟩ := ih _ _ _ h
            simp only [List.length_set] at h2 h3 h4
            refine ⟨lw ++ [j], by rw [h1]; simp, fun q hq hn => ?_, h3, fun q ha hb => by simp [h4 q ha hb], fun hh => by simp at hh⟩
            simp only [List.mem_append, List.mem_singleton, not_or] at hn
            rw [h2 q hq hn.1, List.getElem?_set, if_neg (fun hh => hn.2 hh.symm)]
          · cases h
  | new o k ih =>
    intro m v m' h
    simp only [arun] at h
    split at h
    · obtain ⟨lw, h1, h2, h3, h4, h5⟩ := ih _ _ _ _ h
      simp only [List.length_append, List.length_cons, List.length_nil] at h2 h3 h4
      refine ⟨lw ++ [m.hp.length], by rw [h1]; simp, fun q hq hn => ?_, by omega, fun q ha hb => ?_, fun hh => by simp at hh⟩
      · simp only [List.mem_append, List.mem_singleton, not_or] at hn
        rw [h2 q (by omega) hn.1, List.getElem?_append, if_pos hq]
      · by_cases hq : q = m.hp.length
        · simp [hq]
        · simp [h4 q (by omega) hb]
    · cases h
  | shape r k ih =>
    intro m v m' h
    simp only [arun] at h
    split at h
    · cases h
    · split at h
      · cases h
      · obtain ⟨lw, h1, h2, h3, h4, h5⟩ := ih _ _ _ _ h
        exact ⟨lw, h1, h2, h3, h4, h5⟩
  | frozen r k ih =>
    intro m v m' h
    simp only [arun] at h
    split at h
    · cases h
    · split at h
      · cases h
      · split at h
        · obtain ⟨lw, h1, h2, h3, h4, h5⟩ := ih _ _ _ _ h
          exact ⟨lw, h1, h2, h3, h4, h5⟩
        · cases h
  | _ => intro m v m' h; simp [arun] at h

structure Inv (A : Nat → Prop) (hp : List Ent) (w : World) : Prop where
  hold : ∀ j e, A j → hp[j]? = some e → e.holds w
  diff : ∀ j j' e e', A j → A j' → j ≠ j' → hp[j]? = some e → hp[j']? = some e' → e.own = true → e.g ≠ e'.g

/-- What the run of an operation's tree has done. -/
structure Res (A : Nat → Prop) (m : M) (w : World) (m' : M) (w' : World) (lw : List Nat) : Prop where
  size : w'.heap.size + m.n = w.heap.size + m'.n
  le : m.n ≤ m'.n
  os : w'.os = w.os
  tape : w'.tape = w.tape
  output : w'.output = w.output
  inv : Inv (fun j => A j ∨ m.hp.length ≤ j) m'.hp w'
  frame : ∀ b, b < w.heap.size → (∀ j ∈ lw, ∀ e : Ent, m.hp[j]? = some e → e.g ≠ b) → w'.heap[b]? = w.heap[b]?
  keep : ∀ j, j < m.hp.length → j ∉ lw → m'.hp[j]? = m.hp[j]?
  same : ∀ (j : Nat) (e : Ent), m.hp[j]? = some e → ∃ e' : Ent, m'.hp[j]? = some e' ∧ e'.g = e.g ∧ e'.own = e.own
  len : m.hp.length ≤ m'.hp.length
  new : ∀ (j : Nat) (e : Ent), m.hp.length ≤ j → m'.hp[j]? = some e → j ∈ lw ∧ e.own = true ∧ w.heap.size ≤ e.g
  own : ∀ j ∈ lw, ∀ e : Ent, m.hp[j]? = some e → e.own = true ∧ j ∈ m'.rd
  inb : ∀ j ∈ lw, ∃ e, m'.hp[j]? = some e
  nil : lw = [] → w' = w ∧ m'.n = m.n ∧ m'.hp = m.hp

theorem Res.refl {A : Nat → Prop} {m : M} {w : World} (h : Inv A m.hp w) : Res A m w m w [] where
  size := rfl
  le := Nat.le_refl _
  os := rfl
  tape := rfl
  output := rfl
  inv := by
    have nn : ∀ j e, m.hp[j]? = some e → j < m.hp.length := fun j e he => by
      rcases Nat.lt_or_ge j m.hp.length with h1 | h1
      · exact h1
      · rw [List.getElem?_eq_none h1] at he; cases he
    refine ⟨fun j e hj he => ?_, fun j j' e e' hj hj' hne he he' ho => ?_⟩
    · exact h.hold j e (hj.resolve_right (by have := nn j e he; omega)) he
    · exact h.diff j j' e e' (hj.resolve_right (by have := nn j e he; omega)) (hj'.resolve_right (by have := nn j' e' he'; omega)) hne he he' ho
  frame := fun _ _ _ => rfl
  keep := fun _ _ _ => rfl
  same := fun j e he => ⟨e, he, rfl, rfl⟩
  len := Nat.le_refl _
  new := fun j e hj he => by rw [List.getElem?_eq_none hj] at he; cases he
  own := fun j hj => by cases hj
  inb := fun j hj => by cases hj
  nil := fun _ => ⟨rfl, rfl, rfl⟩

theorem lt_of_get {α : Type} {l : List α} {j : Nat} {e : α} (h : l[j]? = some e) : j < l.length := by
  rcases Nat.lt_or_ge j l.length with h1 | h1
  · exact h1
  · rw [List.getElem?_eq_none h1] at h; cases h

theorem cell_of_holds {e : Ent} {w : World} (h : e.holds w) (a : Addr) (hs : a.spot = none) (hb : a.block = e.g) : w.cell? a = e.cs[a.off]? := by
  obtain ⟨fr, h, _⟩ := h
  simp [World.cell?, hb, h, hs]

theorem frozen_of_holds {e : Ent} {w : World} (h : e.holds w) (ho : e.own = true) (a : Addr) (hb : a.block = e.g) : w.frozen? a = false := by
  obtain ⟨fr, h, hf⟩ := h
  rw [hf ho] at h
  simp [World.frozen?, hb, h]

theorem shape_of_holds {e : Ent} {w : World} (h : e.holds w) : w.shape? e.g = some (e.t, e.cs.length) := by
  obtain ⟨fr, h, _⟩ := h
  simp [World.shape?, h]

theorem heap_set_ne (w : World) (a : Addr) (v : Value) (b : Nat) (h : b ≠ a.block) : (w.setCell a v).heap[b]? = w.heap[b]? := by
  simp only [World.setCell, Array.getElem?_modify]
  rw [if_neg (by omega)]

theorem holds_set {e : Ent} {w : World} (h : e.holds w) (a : Addr) (v : Value) (hs : a.spot = none) (hb : a.block = e.g) :
    Ent.holds { e with cs := e.cs.set a.off v } (w.setCell a v) := by
  obtain ⟨fr, h, hf⟩ := h
  refine ⟨fr, ?_, hf⟩
  simp [World.setCell, Array.getElem?_modify, hb, h, hs]

/-- A store, and what follows. -/
theorem Res.store {A : Nat → Prop} {m m' : M} {w w' : World} {lw : List Nat} {j : Nat} {e : Ent} {a : Addr} {v : Value} {c : Nat} {E : List (It × It)}
    (he : m.hp[j]? = some e) (ho : e.own = true) (hb : a.block = e.g)
    (hrd : j ∈ m'.rd)
    (h : Res A { m with c := c, hp := m.hp.set j { e with cs := e.cs.set a.off v }, E := E, rd := j :: m.rd, wr := j :: m.wr } (w.setCell a v) m' w' lw) : Res A m w m' w' (lw ++ [j]) := by
  have hj := lt_of_get he
  have hsz : (w.setCell a v).heap.size = w.heap.size := by simp [World.setCell]
  have hlen : (m.hp.set j { e with cs := e.cs.set a.off v }).length = m.hp.length := by simp
  obtain ⟨h1, h2, h3, h4, h5, h6, h7, h8, h9, h10, h11, h12, h13, h14⟩ := h
  have hget : ∀ q, q ≠ j → (m.hp.set j { e with cs := e.cs.set a.off v })[q]? = m.hp[q]? := fun q hq => by
    rw [List.getElem?_set]; rw [if_neg (fun h => hq h.symm)]
  have hgj : (m.hp.set j { e with cs := e.cs.set a.off v })[j]? = some { e with cs := e.cs.set a.off v } := by
    rw [List.getElem?_set]; simp [hj]
  have hgg : ∀ (q : Nat) (f : Ent), m.hp[q]? = some f → ∃ f' : Ent, (m.hp.set j { e with cs := e.cs.set a.off v })[q]? = some f' ∧ f'.g = f.g ∧ f'.own = f.own := fun q f hf => by
    by_cases hq : q = j
    · subst hq
      rw [he] at hf
      cases hf
      exact ⟨_, hgj, rfl, rfl⟩
    · exact ⟨f, by rw [hget q hq]; exact hf, rfl, rfl⟩
  refine ⟨by rw [hsz] at h1; exact h1, h2, h3, h4, h5, by simpa [hlen] using h6, ?_, ?_, ?_, by simpa [hlen] using h10, ?_, ?_, ?_, ?_⟩
  · intro b hbl hn
    have hbj : b ≠ a.block := fun hh => hn j (by simp) e he (by rw [hh, hb])
    rw [h7 b (by rw [hsz]; exact hbl) (fun q hq f hf => ?_), heap_set_ne _ _ _ _ hbj]
    by_cases hqj : q = j
    · subst hqj
      rw [hgj] at hf
      cases hf
      exact hn q (by simp) e he
    · rw [hget q hqj] at hf
      exact hn q (by simp [hq]) f hf
  · intro q hq hnq
    simp only [List.mem_append, List.mem_singleton, not_or] at hnq
    rw [h8 q (by rw [hlen]; exact hq) hnq.1, hget q hnq.2]
  · intro q f hf
    obtain ⟨f', hf', e1, e2⟩ := hgg q f hf
    obtain ⟨f'', hf'', e3, e4⟩ := h9 q f' hf'
    exact ⟨f'', hf'', e3.trans e1, e4.trans e2⟩
  · intro q f hq hf
    obtain ⟨k1, k2, k3⟩ := h11 q f (by rw [hlen]; exact hq) hf
    exact ⟨by simp [k1], k2, by rw [hsz] at k3; exact k3⟩
  · intro q hq f hf
    simp only [List.mem_append, List.mem_singleton] at hq
    rcases hq with hq | hq
    · obtain ⟨f', hf', _, e2⟩ := hgg q f hf
      obtain ⟨k1, k2⟩ := h12 q hq f' hf'
      exact ⟨e2 ▸ k1, k2⟩
    · subst hq
      rw [he] at hf
      cases hf
      exact ⟨ho, hrd⟩
  · intro q hq
    simp only [List.mem_append, List.mem_singleton] at hq
    rcases hq with hq | hq
    · exact h13 q hq
    · subst hq
      obtain ⟨f', hf', _, _⟩ := h9 q _ hgj
      exact ⟨f', hf'⟩
  · intro hh
    simp at hh

theorem Inv.store {A : Nat → Prop} {hp : List Ent} {w : World} {j : Nat} {e : Ent} {a : Addr} {v : Value} (hA : A j) (hi : Inv A hp w) (he : hp[j]? = some e) (ho : e.own = true) (hs : a.spot = none) (hb : a.block = e.g) :
    Inv A (hp.set j { e with cs := e.cs.set a.off v }) (w.setCell a v) := by
  have hj := lt_of_get he
  have hget : ∀ q, q ≠ j → (hp.set j { e with cs := e.cs.set a.off v })[q]? = hp[q]? := fun q hq => by
    rw [List.getElem?_set]; rw [if_neg (fun h => hq h.symm)]
  have hgj : (hp.set j { e with cs := e.cs.set a.off v })[j]? = some { e with cs := e.cs.set a.off v } := by
    rw [List.getElem?_set]; simp [hj]
  have back : ∀ (q : Nat) (f : Ent), (hp.set j { e with cs := e.cs.set a.off v })[q]? = some f → ∃ f' : Ent, hp[q]? = some f' ∧ f'.g = f.g ∧ f'.own = f.own := fun q f hf => by
    by_cases hq : q = j
    · subst hq
      rw [hgj] at hf
      cases hf
      exact ⟨e, he, rfl, rfl⟩
    · rw [hget q hq] at hf
      exact ⟨f, hf, rfl, rfl⟩
  refine ⟨fun q f hq hf => ?_, fun q q' f f' hq hq' hne hf hf' hof => ?_⟩
  · by_cases hqj : q = j
    · subst hqj
      rw [hgj] at hf
      cases hf
      exact holds_set (hi.hold q e hA he) a v hs hb
    · rw [hget q hqj] at hf
      have hne := hi.diff j q e f hA hq (fun h => hqj h.symm) he hf ho
      have hh := hi.hold q f hq hf
      unfold Ent.holds at hh ⊢
      rw [heap_set_ne _ _ _ _ (by rw [hb]; exact fun h => hne h.symm)]
      exact hh
  · obtain ⟨k, hk, e1, e2⟩ := back q f hf
    obtain ⟨k', hk', e1', _⟩ := back q' f' hf'
    rw [← e1, ← e1']
    exact hi.diff q q' k k' hq hq' hne hk hk' (e2.trans hof)

/-- A new block, and what follows. -/
theorem Inv.new {A : Nat → Prop} {hp : List Ent} {w : World} (c : Array Value) (t : TypeId) (g : Nat) (hg : g = w.heap.size) (hi : Inv A hp w) :
    Inv (fun j => A j ∨ j = hp.length) (hp ++ [⟨g, c.toList, [], t, true⟩]) { w with heap := w.heap.push (.cells c t (0, 0)) } := by
  have hlt : ∀ (q : Nat) (f : Ent), (A q ∨ q = hp.length) → (hp ++ [(⟨g, c.toList, [], t, true⟩ : Ent)])[q]? = some f → (A q ∧ hp[q]? = some f ∧ q < hp.length) ∨ (q = hp.length ∧ f = ⟨g, c.toList, [], t, true⟩) := by
    intro q f hA hf
    rw [List.getElem?_append] at hf
    split at hf
    · rename_i hq
      rcases hA with hA | hA
      · exact .inl ⟨hA, hf, hq⟩
      · omega
    · rename_i hq
      have := lt_of_get hf
      simp at this
      have hq' : q = hp.length := by omega
      subst hq'
      simp at hf
      exact .inr ⟨rfl, hf.symm⟩
  refine ⟨fun q f hq hf => ?_, fun q q' f f' hq hq' hne hf hf' hof => ?_⟩
  · rcases hlt q f hq hf with ⟨hA, hf, _⟩ | ⟨_, rfl⟩
    · have hh := hi.hold q f hA hf
      have hl := hh.lt
      obtain ⟨fr, hh, hf'⟩ := hh
      refine ⟨fr, ?_, hf'⟩
      show (w.heap.push _)[f.g]? = _
      rw [Array.getElem?_push, if_neg (by omega)]
      exact hh
    · refine ⟨(0, 0), ?_, fun _ => rfl⟩
      show (w.heap.push _)[g]? = _
      rw [Array.getElem?_push, if_pos hg]
  · rcases hlt q f hq hf with ⟨hA, hf, _⟩ | ⟨e1, rfl⟩ <;> rcases hlt q' f' hq' hf' with ⟨hA', hf', _⟩ | ⟨e2, rfl⟩
    · exact hi.diff q q' f f' hA hA' hne hf hf' hof
    · have := (hi.hold q f hA hf).lt
      show f.g ≠ g
      omega
    · have := (hi.hold q' f' hA' hf').lt
      show g ≠ f'.g
      omega
    · omega

theorem Res.newStep {A : Nat → Prop} {m m' : M} {w w' : World} {lw : List Nat} {c : Array Value} {t : TypeId} {g : Nat} (hg : g = w.heap.size)
    (h : Res (fun j => A j ∨ j = m.hp.length) { m with hp := m.hp ++ [⟨g, c.toList, [], t, true⟩], n := m.n + 1, wr := m.hp.length :: m.wr } { w with heap := w.heap.push (.cells c t (0, 0)) } m' w' lw) :
    Res A m w m' w' (lw ++ [m.hp.length]) := by
  obtain ⟨h1, h2, h3, h4, h5, h6, h7, h8, h9, h10, h11, h12, h13, h14⟩ := h
  have hsz : ({ w with heap := w.heap.push (.cells c t (0, 0)) } : World).heap.size = w.heap.size + 1 := by simp
  have hlen : (m.hp ++ [(⟨g, c.toList, [], t, true⟩ : Ent)]).length = m.hp.length + 1 := by simp
  have hget : ∀ q, q < m.hp.length → (m.hp ++ [(⟨g, c.toList, [], t, true⟩ : Ent)])[q]? = m.hp[q]? := fun q hq => by
    rw [List.getElem?_append, if_pos hq]
  have hnew : (m.hp ++ [(⟨g, c.toList, [], t, true⟩ : Ent)])[m.hp.length]? = some ⟨g, c.toList, [], t, true⟩ := by simp
  refine ⟨?_, ?_, h3, h4, h5, ?_, ?_, ?_, ?_, ?_, ?_, ?_, ?_, ?_⟩
  · rw [hsz] at h1
    dsimp only at h1
    omega
  · dsimp only at h2; omega
  · refine ⟨fun j e hj he => h6.hold j e ?_ he, fun j j' e e' hj hj' => h6.diff j j' e e' ?_ ?_⟩
    · dsimp only; rw [hlen]; rcases hj with hj | hj
      · exact .inl (.inl hj)
      · by_cases hh : j = m.hp.length
        · exact .inl (.inr hh)
        · exact .inr (by omega)
    · dsimp only; rw [hlen]; rcases hj with hj | hj
      · exact .inl (.inl hj)
      · by_cases hh : j = m.hp.length
        · exact .inl (.inr hh)
        · exact .inr (by omega)
    · dsimp only; rw [hlen]; rcases hj' with hj | hj
      · exact .inl (.inl hj)
      · by_cases hh : j' = m.hp.length
        · exact .inl (.inr hh)
        · exact .inr (by omega)
  · intro b hbl hn
    rw [h7 b (by rw [hsz]; omega) (fun q hq f hf => ?_)]
    · show (w.heap.push _)[b]? = _
      rw [Array.getElem?_push, if_neg (by omega)]
    · by_cases hql : q < m.hp.length
      · rw [hget q hql] at hf
        exact hn q (by simp [hq]) f hf
      · have := lt_of_get hf
        rw [hlen] at this
        have : q = m.hp.length := by omega
        subst this
        rw [hnew] at hf
        cases hf
        show g ≠ b
        omega
  · intro q hq hnq
    simp only [List.mem_append, List.mem_singleton, not_or] at hnq
    rw [h8 q (by rw [hlen]; omega) hnq.1, hget q hq]
  · intro q f hf
    obtain ⟨f'', hf'', e3, e4⟩ := h9 q f (by rw [hget q (lt_of_get hf)]; exact hf)
    exact ⟨f'', hf'', e3, e4⟩
  · rw [hlen] at h10; omega
  · intro q f hq hf
    by_cases hql : q = m.hp.length
    · subst hql
      obtain ⟨f', hf', e3, e4⟩ := h9 _ _ hnew
      rw [hf'] at hf
      cases hf
      exact ⟨by simp, e4, by rw [e3]; show w.heap.size ≤ g; omega⟩
    · obtain ⟨k1, k2, k3⟩ := h11 q f (by rw [hlen]; omega) hf
      exact ⟨by simp [k1], k2, by rw [hsz] at k3; omega⟩
  · intro q hq f hf
    have hql := lt_of_get hf
    simp only [List.mem_append, List.mem_singleton] at hq
    rcases hq with hq | hq
    · exact h12 q hq f (by rw [hget q hql]; exact hf)
    · omega
  · intro q hq
    simp only [List.mem_append, List.mem_singleton] at hq
    rcases hq with hq | hq
    · exact h13 q hq
    · subst hq
      obtain ⟨f', hf', _, _⟩ := h9 _ _ hnew
      exact ⟨f', hf'⟩
  · intro hh; simp at hh

theorem run_store_plain {α : Type} (md : Mode) (a : Addr) (u : Value) (k : Sem α) (w : World) (h1 : ∀ c, u = .agg c → False) (h2 : ∀ c, u = .tuple c → False) :
    (Sem.store md a u k).run P w = match w.cell? a with
      | some _ => if w.frozen? a then .halt (.unsupported (.unsafePointer "a write to bytes that a string shares")) w else k.run P (w.setCell a u)
      | none => match w.farStore P a u (md == .atomic) with
        | .ok (w, _) => k.run P w
        | .error h => .halt h w := by
  cases u <;> first | exact (h1 _ rfl).elim | exact (h2 _ rfl).elim | rfl

theorem arun_sound {α : Type} (s : Sem α) : ∀ (A : Nat → Prop) (m : M) (v : α) (m' : M) (w : World), arun P γ J s m = some (v, m') → EqOk m'.E → Inv A m.hp w → (∀ j ∈ m'.rd, A j) →
    (∀ q, m.n + q < m'.n → γ (m.n + q) = w.heap.size + q) → ∃ w' lw, s.run P w = .ok v w' ∧ m'.wr = lw ++ m.wr ∧ Res A m w m' w' lw := by
  induction s with
  | pure a =>
    intro A m v m' w h _ hi _ _
    simp only [arun, Option.some.injEq, Prod.mk.injEq] at h
    obtain ⟨rfl, rfl⟩ := h
    exact ⟨w, [], rfl, rfl, Res.refl hi⟩
  | program k ih => intro A m v m' w h hE hi hA hn; exact ih _ A m v m' w h hE hi hA hn
  | mark _ k ih => intro A m v m' w h hE hi hA hn; exact ih A m v m' w h hE hi hA hn
  | load md a k ih =>
    intro A m v m' w h hE hi hA hn
    simp only [arun] at h
    split at h
    · cases h
    · rename_i j hJ
      split at h
      · cases h
      · rename_i e he
        split at h
        · rename_i u hs hc
          have hx := arun_ext _ _ _ _ h
          obtain ⟨⟨l1, e1⟩, ⟨l2, e2⟩, _⟩ := hx
          have hE1 : EqOk ((It.nat a.block, It.nat e.g) :: m.E) := EqOk.app (l := l1) (by rw [← e1]; exact hE)
          have hb := It.nat_inj hE1.cons.1
          have hAj : A j := hA j (by rw [e2]; simp)
          have hh := hi.hold j e hAj he
          obtain ⟨w', lw, hr, hw, hR⟩ := ih u A _ v m' w h hE hi hA hn
          refine ⟨w', lw, ?_, hw, ?_⟩
          · simp only [Sem.run, cell_of_holds hh a hs hb, hc]
            exact hr
          · obtain ⟨h1, h2, h3, h4, h5, h6, h7, h8, h9, h10, h11, h12, h13, h14⟩ := hR
            exact ⟨h1, h2, h3, h4, h5, h6, h7, h8, h9, h10, h11, h12, h13, h14⟩
        · cases h
  | store md a u k ih =>
    intro A m v m' w h hE hi hA hn
    simp only [arun] at h
    split at h
    · cases h
    · cases h
    · rename_i hu1 hu2
      split at h
      · cases h
      · rename_i j hJ
        split at h
        · cases h
        · rename_i e he
          split at h
          · rename_i old hs ho hc
            have hx := arun_ext _ _ _ _ h
            obtain ⟨⟨l1, e1⟩, ⟨l2, e2⟩, ⟨l3, e3⟩, _⟩ := hx
            have hE1 : EqOk ((It.nat a.block, It.nat e.g) :: m.E) := EqOk.app (l := l1) (by rw [← e1]; exact hE)
            have hb := It.nat_inj hE1.cons.1
            have hrd : j ∈ m'.rd := by rw [e2]; simp
            have hAj : A j := hA j hrd
            have hh := hi.hold j e hAj he
            have hsz : (w.setCell a u).heap.size = w.heap.size := by simp [World.setCell]
            obtain ⟨w', lw, hr, hw, hR⟩ := ih A _ v m' (w.setCell a u) h hE (hi.store hAj he ho hs hb) hA (by rw [hsz]; exact hn)
            refine ⟨w', lw ++ [j], ?_, by rw [hw]; simp, Res.store he ho hb hrd hR⟩
            rw [run_store_plain md a u k w hu1 hu2]
            simp only [cell_of_holds hh a hs hb, hc, frozen_of_holds hh ho a hb]
            exact hr
          · cases h
  | new o k ih =>
    intro A m v m' w h hE hi hA hn
    simp only [arun] at h
    split at h
    · rename_i c t
      have hx := arun_ext _ _ _ _ h
      have hsz : ({ w with heap := w.heap.push (.cells c t (0, 0)) } : World).heap.size = w.heap.size + 1 := by simp
      have hle : m.n < m'.n := hx.n
      have hg : γ m.n = w.heap.size := by
        have := hn 0 (by omega)
        simpa using this
      obtain ⟨w', lw, hr, hw, hR⟩ := ih (γ m.n) (fun j => A j ∨ j = m.hp.length) _ v m' { w with heap := w.heap.push (.cells c t (0, 0)) } h hE (hi.new c t _ hg) (fun j hj => .inl (hA j hj)) (by
        intro q hq
        dsimp only at hq ⊢
        have := hn (q + 1) (by omega)
        rw [hsz, show m.n + 1 + q = m.n + (q + 1) by omega, this]
        omega)
      refine ⟨w', lw ++ [m.hp.length], ?_, by rw [hw]; simp, Res.newStep hg hR⟩
      simp only [Sem.run]
      rw [← hg]
      exact hr
    · cases h
  | shape r k ih =>
    intro A m v m' w h hE hi hA hn
    simp only [arun] at h
    split at h
    · cases h
    · rename_i j hJ
      split at h
      · cases h
      · rename_i e he
        have hx := arun_ext _ _ _ _ h
        obtain ⟨⟨l1, e1⟩, ⟨l2, e2⟩, _⟩ := hx
        have hE1 : EqOk ((It.nat r, It.nat e.g) :: m.E) := EqOk.app (l := l1) (by rw [← e1]; exact hE)
        have hb := It.nat_inj hE1.cons.1
        have hAj : A j := hA j (by rw [e2]; simp)
        have hh := hi.hold j e hAj he
        obtain ⟨w', lw, hr, hw, hR⟩ := ih _ A _ v m' w h hE hi hA hn
        refine ⟨w', lw, ?_, hw, ?_⟩
        · simp only [Sem.run, hb, shape_of_holds hh]
          exact hr
        · obtain ⟨h1, h2, h3, h4, h5, h6, h7, h8, h9, h10, h11, h12, h13, h14⟩ := hR
          exact ⟨h1, h2, h3, h4, h5, h6, h7, h8, h9, h10, h11, h12, h13, h14⟩
  | frozen a k ih =>
    intro A m v m' w h hE hi hA hn
    simp only [arun] at h
    split at h
    · cases h
    · rename_i j hJ
      split at h
      · cases h
      · rename_i e he
        split at h
        · rename_i ho
          have hx := arun_ext _ _ _ _ h
          obtain ⟨⟨l1, e1⟩, ⟨l2, e2⟩, _⟩ := hx
          have hE1 : EqOk ((It.nat a.block, It.nat e.g) :: m.E) := EqOk.app (l := l1) (by rw [← e1]; exact hE)
          have hb := It.nat_inj hE1.cons.1
          have hAj : A j := hA j (by rw [e2]; simp)
          have hh := hi.hold j e hAj he
          obtain ⟨w', lw, hr, hw, hR⟩ := ih _ A _ v m' w h hE hi hA hn
          refine ⟨w', lw, ?_, hw, ?_⟩
          · simp only [Sem.run, frozen_of_holds hh ho a hb]
            exact hr
          · obtain ⟨h1, h2, h3, h4, h5, h6, h7, h8, h9, h10, h11, h12, h13, h14⟩ := hR
            exact ⟨h1, h2, h3, h4, h5, h6, h7, h8, h9, h10, h11, h12, h13, h14⟩
        · cases h
  | _ => intro A m v m' w h; simp [arun] at h

end Go.Ex

namespace Go.Ex
open Go.RowKit

/-- A state as functions. -/
structure X where
  sl : Nat → Option Value
  hp : Nat → Option Ent

def toX (st : St) : X := ⟨fun t => slot st.fr t, fun k => st.hp[k]?⟩

def lookA {β : Type} : List (Nat × β) → Nat → Option β
  | [], _ => none
  | (j, e) :: l, k => if j = k then some e else lookA l k

def Actn.app (A : Actn) (x : X) : X :=
  ⟨fun t => match A.ws with | some (d, v) => if t = d then some v else x.sl t | none => x.sl t,
   fun k => match lookA A.wh k with | some e => some e | none => x.hp k⟩

def Actn.Pre (A : Actn) (x : X) : Prop := (∀ p ∈ A.rs, x.sl p.1 = some p.2) ∧ (∀ p ∈ A.rh, x.hp p.1 = some p.2)

def Out.exit_ : Out → Exit
  | .normal => .normal
  | .exit id => .exit id
  | .ret => .ret

/-- What is to stay: the blocks of S as they lay in w; the deferred calls ds. -/
structure Frm where
  w : World
  S : Nat → Prop
  lt : ∀ k, S k → k < w.heap.size
  ds : List Deferred

structure Frm.Keeps (F : Frm) (w : World) : Prop where
  os : w.os = F.w.os
  tape : w.tape = F.w.tape
  output : w.output = F.w.output
  size : F.w.heap.size ≤ w.heap.size
  block : ∀ k, F.S k → w.heap[k]? = F.w.heap[k]?

/-- all blocks -/
def Frm.of (w : World) : Frm := ⟨w, fun k => k < w.heap.size, fun _ h => h, []⟩
theorem Frm.Keeps.refl (F : Frm) : F.Keeps F.w := ⟨rfl, rfl, rfl, Nat.le_refl _, fun _ _ => rfl⟩
theorem Frm.Keeps.step {F : Frm} {w w' : World} (h : F.Keeps w) (h1 : w'.os = w.os) (h2 : w'.tape = w.tape) (h3 : w'.output = w.output) (h4 : w.heap.size ≤ w'.heap.size)
    (h5 : ∀ b, F.S b → b < w.heap.size → w'.heap[b]? = w.heap[b]?) : F.Keeps w' :=
  ⟨h1.trans h.os, h2.trans h.tape, h3.trans h.output, Nat.le_trans h.size h4, fun k hk => (h5 k hk (Nat.lt_of_lt_of_le (F.lt k hk) h.size)).trans (h.block k hk)⟩
theorem Frm.Keeps.trans {F : Frm} {w w' : World} (h : F.Keeps w) (k : Below w.heap.size w w') : F.Keeps w' := h.step k.os k.tape k.output k.size (fun b _ hb => k.block b hb)
theorem Frm.Keeps.fresh {F : Frm} {w : World} (h : F.Keeps w) {g : Nat} (hg : w.heap.size ≤ g) : ¬ F.S g := fun hs => by
  have := F.lt g hs
  have := h.size
  omega
theorem Frm.Keeps.below {w0 w : World} (h : (Frm.of w0).Keeps w) : Below w0.heap.size w0 w := ⟨h.os, h.tape, h.output, h.size, h.block⟩

structure Mod (w0 : Frm) (N : Nat) (x : X) (a : Act) (w : World) : Prop where
  defers : a.defers = w0.ds
  size : a.tmps.size = N
  slot : ∀ t v, x.sl t = some v → a.tmps[t]? = some v
  below : w0.Keeps w
  hold : ∀ k e, x.hp k = some e → e.holds w
  own : ∀ k e, x.hp k = some e → e.own = true → ¬ w0.S e.g
  diff : ∀ k k' e e', k ≠ k' → x.hp k = some e → x.hp k' = some e' → e.own = true → e.g ≠ e'.g

theorem lookA_mem {β : Type} : ∀ (l : List (Nat × β)) (k : Nat) (e : β), lookA l k = some e → (k, e) ∈ l
  | [], _, _, h => by cases h
  | (j, f) :: l, k, e, h => by
    simp only [lookA] at h
    split at h
    · rename_i hj
      cases h
      simp [hj]
    · exact List.mem_cons_of_mem _ (lookA_mem l k e h)

theorem lookA_none {β : Type} : ∀ (l : List (Nat × β)) (k : Nat), lookA l k = none → k ∉ l.map (·.1)
  | [], _, _ => by simp
  | (j, f) :: l, k, h => by
    simp only [lookA] at h
    split at h
    · cases h
    · rename_i hj
      simp only [List.map_cons, List.mem_cons, not_or]
      exact ⟨fun hh => hj hh.symm, lookA_none l k h⟩

theorem readSlots_spec : ∀ (fr : List (Option Value)) (ts : List Nat) (l : List (Nat × Value)), readSlots fr ts = some l → (∀ p ∈ l, slot fr p.1 = some p.2) ∧ l.map (·.1) = ts
  | _, [], l, h => by simp only [readSlots, Option.some.injEq] at h; subst h; simp
  | fr, t :: ts, l, h => by
    simp only [readSlots] at h
    split at h
    · rename_i v l' hv hl
      cases h
      obtain ⟨h1, h2⟩ := readSlots_spec fr ts l' hl
      refine ⟨fun p hp => ?_, by simp [h2]⟩
      rcases List.mem_cons.1 hp with rfl | hp
      · exact hv
      · exact h1 p hp
    · cases h

theorem readEnts_spec : ∀ (hp : List Ent) (js : List Nat) (l : List (Nat × Ent)), readEnts hp js = some l → (∀ p ∈ l, hp[p.1]? = some p.2) ∧ l.map (·.1) = js
  | _, [], l, h => by simp only [readEnts, Option.some.injEq] at h; subst h; simp
  | hp, t :: ts, l, h => by
    simp only [readEnts] at h
    split at h
    · rename_i v l' hv hl
      cases h
      obtain ⟨h1, h2⟩ := readEnts_spec hp ts l' hl
      refine ⟨fun p hp => ?_, by simp [h2]⟩
      rcases List.mem_cons.1 hp with rfl | hp
      · exact hv
      · exact h1 p hp
    · cases h

theorem slot_set (fr : List (Option Value)) (d : Nat) (v : Value) (t : Nat) (h : d < fr.length) : slot (fr.set d (some v)) t = if t = d then some v else slot fr t := by
  unfold slot
  rw [List.getElem?_set]
  by_cases ht : t = d
  · subst ht; simp [h]
  · rw [if_neg (fun hh => ht hh.symm), if_neg ht]

theorem slot_setSlot (fr : List (Option Value)) (d : Option Nat) (v : Value) (t : Nat) (h : dstOk d fr.length = true) :
    slot (setSlot fr d v) t = match d.map (·, v) with | some (d, v) => if t = d then some v else slot fr t | none => slot fr t := by
  cases d with
  | none => rfl
  | some d =>
    simp only [dstOk, Nat.blt_eq] at h
    exact slot_set fr d v t h

theorem length_setSlot (fr : List (Option Value)) (d : Option Nat) (v : Value) : (setSlot fr d v).length = fr.length := by
  cases d <;> simp [setSlot]

/-- What is put, put in the frame. -/
theorem put_slot {a : Act} {d : Option Nat} {v : Value} {N : Nat} (hs : a.tmps.size = N) (hd : dstOk d N = true) (x : Nat → Option Value)
    (h : ∀ t u, x t = some u → a.tmps[t]? = some u) :
    ∀ t u, (match d.map (·, v) with | some (d, v) => if t = d then some v else x t | none => x t) = some u → (a.put d v).tmps[t]? = some u := by
  intro t u hu
  cases d with
  | none => exact h t u hu
  | some d =>
    simp only [dstOk, Nat.blt_eq] at hd
    simp only [Option.map_some] at hu
    simp only [Act.put]
    rw [Array.getElem?_setIfInBounds]
    by_cases ht : t = d
    · subst ht
      rw [if_pos rfl, if_pos (by omega)]
      rw [if_pos rfl] at hu
      exact hu
    · rw [if_neg (fun hh => ht hh.symm)]
      rw [if_neg ht] at hu
      exact h t u hu

theorem put_size (a : Act) (d : Option Nat) (v : Value) : (a.put d v).tmps.size = a.tmps.size := by cases d <;> simp [Act.put]
theorem put_defers (a : Act) (d : Option Nat) (v : Value) : (a.put d v).defers = a.defers := by cases d <;> rfl

/-- What an operation really does, where it calls nothing. -/
def Real (P : Program) (ops : Array Oper) (o : Oper) (a : Act) (w : World) (v : Value) (w' : World) : Prop :=
  (Region.wanted o (yielded ops a.tmps) = false ∧ v = undef ∧ w' = w) ∨
  (Region.wanted o (yielded ops a.tmps) = true ∧ ((execOp a.eval o).run P w = .ok (.value v) w' ∨ ((execOp a.eval o).run P w = .ok .skip w' ∧ v = undef)))

theorem Real.uniq {P : Program} {ops : Array Oper} {o : Oper} {a : Act} {w w1 w2 : World} {v1 v2 : Value} (h1 : Real P ops o a w v1 w1) (h2 : Real P ops o a w v2 w2) : v1 = v2 ∧ w1 = w2 := by
  rcases h1 with ⟨a1, b1, c1⟩ | ⟨a1, b1⟩ <;> rcases h2 with ⟨a2, b2, c2⟩ | ⟨a2, b2⟩
  · exact ⟨by rw [b1, b2], by rw [c1, c2]⟩
  · rw [a1] at a2; cases a2
  · rw [a1] at a2; cases a2
  · rcases b1 with b1 | ⟨b1, c1⟩ <;> rcases b2 with b2 | ⟨b2, c2⟩ <;> rw [b1] at b2
    · injection b2 with b2 b3
      injection b2 with b2
      exact ⟨b2, b3⟩
    · injection b2 with b2 b3
      cases b2
    · injection b2 with b2 b3
      cases b2
    · injection b2 with b2 b3
      exact ⟨by rw [c1, c2], b3⟩

theorem Real.wp {P : Program} {ops : Array Oper} {o : Oper} {a : Act} {w w' : World} {v : Value} {i : Nat} {K : Act → World → Prop} {Q : Exit → Act → World → Prop}
    (ho : ops[i]? = some o) (h : Real P ops o a w v w') (hk : K (a.put o.dst v) w') : wpOp P ops Q i K a w := by
  unfold wpOp
  rw [ho]
  rcases h with ⟨h1, rfl, rfl⟩ | ⟨h1, h2⟩
  · simp only [h1]
    exact hk
  · simp only [h1, if_true]
    left
    unfold Oper.wp
    rcases h2 with h2 | ⟨h2, rfl⟩ <;> rw [h2] <;> exact hk

/-- What an operation has done to blocks that are known. -/
structure Done (w w' : World) (need upd : List (Nat × Ent)) (news : List Ent) : Prop where
  os : w'.os = w.os
  tape : w'.tape = w.tape
  output : w'.output = w.output
  size : w.heap.size ≤ w'.heap.size
  frame : ∀ b, b < w.heap.size → (∀ p ∈ need, p.1 ∈ upd.map (·.1) → p.2.g ≠ b) → w'.heap[b]? = w.heap[b]?
  upds : ∀ p ∈ upd, p.2.holds w' ∧ ∃ e0 : Ent, (p.1, e0) ∈ need ∧ e0.own = true ∧ (p.2.g = e0.g ∨ w.heap.size ≤ p.2.g)
  new : ∀ e ∈ news, e.holds w' ∧ w.heap.size ≤ e.g
  diff : ∀ p ∈ upd, ∀ q ∈ upd, p.1 ≠ q.1 → p.2.g ≠ q.2.g
  diffn : ∀ p ∈ upd, ∀ e ∈ news, p.2.g ≠ e.g
  pw : news.Pairwise (fun a b => a.g ≠ b.g)

/-- What comes of an operation, or of the call that it is. -/
def Eff (P : Program) (s : Sem Next) (w : World) (Φ : Value → World → Prop) : Prop :=
  (∃ v w', s.run P w = .ok (.value v) w' ∧ Φ v w') ∨ (∃ w', s.run P w = .ok .skip w' ∧ Φ undef w') ∨ (∃ f args, s.run P w = .ok (.enter f args) w ∧ Calls P f args w fun e w' => ∃ v, e = .returned v ∧ Φ v w')

/-- The promise of a record. -/
def Rec.OkF (P : Program) (w0 : Frm) : Rec → Prop
  | .call f args need k val news _ => ∀ (γ : Nat → Nat) (w : World), w0.Keeps w → (∀ p ∈ need γ, p.2.holds w) →
      Calls P f (args γ).toArray w fun e w' => ∃ δ : Nat → Nat, (∀ q, k ≤ q → δ q = 0) ∧ e = .returned (val δ) ∧ Below w.heap.size w w' ∧
        (∀ e ∈ news δ, e.holds w' ∧ w.heap.size ≤ e.g) ∧ (news δ).Pairwise (fun a b => a.g ≠ b.g)
  | .fact _ need s v => ∀ (γ : Nat → Nat) (w : World), w0.Keeps w → (∀ p ∈ need γ, p.2.holds w) → (s γ).run P w = .ok (.value v) w
  | .codeN c k pre post out => ∀ (gl : List Nat) (a : Act) (w : World), Mod w0 (pre gl).fr.length (toX (pre gl)) a w →
      (Code.loop c).wp P (fun e a' w' => ∃ δ : Nat → Nat, (∀ q, k ≤ q → δ q = 0) ∧ e = out.exit_ ∧ Mod w0 (pre gl).fr.length (toX (post gl δ)) a' w') a w
  | .eff _ _ need s k val upd news _ => ∀ (γ : Nat → Nat) (w : World), w0.Keeps w → (∀ p ∈ need γ, p.2.holds w) → (∀ p ∈ need γ, ∀ q ∈ need γ, p.1 ≠ q.1 → p.2.own = true → p.2.g ≠ q.2.g) →
      Eff P (s γ) w fun v w' => ∃ δ : Nat → Nat, (∀ q, k ≤ q → δ q = 0) ∧ v = val γ δ ∧ Done w w' (need γ) (upd γ δ) (news γ δ)

abbrev Rec.Ok (P : Program) (w : World) (r : Rec) : Prop := r.OkF P (Frm.of w)

theorem wants_spec {ops : Array Oper} {fr : List (Option Value)} {o : Oper} {b : Bool} {ds : List Nat} {a : Act} (h : wants ops.toList fr o = some (b, ds))
    (hs : ∀ d ∈ ds, ∀ v, slot fr d = some v → a.tmps[d]? = some v) : Region.wanted o (yielded ops a.tmps) = b := by
  unfold wants at h
  unfold Region.wanted
  cases hg : o.guard with
  | none =>
    simp only [hg] at h ⊢
    cases h
    rfl
  | some jw =>
    obtain ⟨j, want⟩ := jw
    simp only [hg] at h ⊢
    unfold yielded
    rw [Array.getElem?_toList] at h
    cases hd : (ops[j]?).bind (·.dst) with
    | none =>
      simp only [hd] at h
      cases h
      rfl
    | some d =>
      simp only [hd] at h
      cases hv : slot fr d with
      | none => simp only [hv] at h; cases h
      | some v =>
        simp only [hv] at h
        have hd' : d ∈ ds := by
          split at h
          · cases h
          · cases h; simp
          · cases h; simp
        have := hs d hd' v hv
        simp only [Option.bind_some, this]
        cases v <;> simp at h <;> (obtain ⟨rfl, rfl⟩ := h; first | rfl | (cases want <;> rfl) | (rename_i b'; cases b' <;> cases want <;> rfl))

theorem ev_congr {fr : List (Option Value)} {o : Oper} {a : Act} {rs : List (Nat × Value)} {ds : List Nat} (hsel : isSel o.op = false) (hr : readSlots fr (ds ++ tmpsOf o) = some rs)
    (h : ∀ p ∈ rs, a.tmps[p.1]? = some p.2) : execOp a.eval o = execOp (ev fr) o := by
  obtain ⟨h1, h2⟩ := readSlots_spec _ _ _ hr
  refine execOp_congr o (fun cs b he => ?_) (fun x hx => ?_)
  · rw [he] at hsel; cases hsel
  · cases x with
    | tmp t =>
      have ht : t ∈ rs.map (·.1) := by
        rw [h2]
        refine List.mem_append_right _ ?_
        unfold tmpsOf
        rw [List.mem_filterMap]
        exact ⟨.tmp t, by simpa using hx, rfl⟩
      rw [List.mem_map] at ht
      obtain ⟨p, hp, rfl⟩ := ht
      have e1 := h p hp
      have e2 := h1 p hp
      show a.tmps.getD p.1 undef = (slot fr p.1).getD undef
      rw [e2]
      simp [Array.getD_eq_getD_getElem?, e1]
    | _ => rfl

theorem number_look : ∀ (ns : List Ent) (n k : Nat), lookA (number n ns) k = if n ≤ k then ns[k - n]? else none
  | [], n, k => by simp [number, lookA]
  | e :: ns, n, k => by
    simp only [number, lookA]
    rw [number_look ns (n + 1) k]
    by_cases h : n = k
    · subst h; simp
    · rw [if_neg h]
      by_cases h1 : n + 1 ≤ k
      · rw [if_pos h1, if_pos (by omega), show k - n = (k - (n + 1)) + 1 by omega, List.getElem?_cons_succ]
      · rw [if_neg h1, if_neg (by omega)]

theorem eqs_ok : ∀ (need : List (Nat × Ent)) (hp : List Ent) (E : List (It × It)), EqOk (eqs need hp ++ E) → ∀ p ∈ need, hp[p.1]? = some p.2
  | [], _, _, _, p, hp => by cases hp
  | (j, e) :: need, hp, E, h, p, hm => by
    have h' : EqOk ((It.ent hp[j]?, It.ent (some e)) :: (eqs need hp ++ E)) := h
    have h1 := h'.cons
    rcases List.mem_cons.1 hm with rfl | hm
    · have := h1.1
      injection this
    · exact eqs_ok need hp E h1.2 p hm

variable {P : Program} {γ : Nat → Nat} {ops : Array Oper} {o : Oper} {i : Nat} {g g' : G} {w0 : Frm} {N : Nat}

/-- The ways that a step goes. -/
inductive Way (P : Program) (γ : Nat → Nat) (ops : List Oper) (o : Oper) (i : Nat) (g g' : G) : Prop where
  | off (ds : List Nat) (rs : List (Nat × Value)) (hw : wants ops g.st.fr o = some (false, ds)) (hr : readSlots g.st.fr ds = some rs)
      (h : g' = finish g o i rs undef .no g.st.hp g.n g.recs g.E [] [] 0)
  | on (ds : List Nat) (rs : List (Nat × Value)) (hw : wants ops g.st.fr o = some (true, ds)) (hr : readSlots g.st.fr (ds ++ tmpsOf o) = some rs) (nx : Next) (v : Value) (tag : Tag) (m : M)
      (ha : arun P γ (fun _ => tagOf g.st.tg (tmpsOf o)) (execOp (ev g.st.fr) o) ⟨g.st.hp, g.n, 0, g.E, [], []⟩ = some (nx, m)) (hn : nx = .value v ∨ (nx = .skip ∧ v = undef))
      (rh wh : List (Nat × Ent)) (h1 : readEnts g.st.hp m.rd = some rh) (h2 : readEnts m.hp m.wr = some wh)
      (h : g' = finish g o i rs v tag m.hp m.n g.recs m.E rh wh 0)
  | call (ds : List Nat) (rs : List (Nat × Value)) (hw : wants ops g.st.fr o = some (true, ds)) (hr : readSlots g.st.fr (ds ++ tmpsOf o) = some rs) (f f' : FuncId) (args : Array Value) (m : M)
      (args' : (Nat → Nat) → List Value) (need : (Nat → Nat) → List (Nat × Ent)) (k : Nat) (val : (Nat → Nat) → Value) (news : (Nat → Nat) → List Ent) (tag : Tag) (recs : List Rec)
      (ha : arun P γ (fun _ => tagOf g.st.tg (tmpsOf o)) (execOp (ev g.st.fr) o) ⟨g.st.hp, g.n, 0, g.E, [], []⟩ = some (.enter f args, m)) (hwr : m.wr = []) (hrd : m.rd = [])
      (hrec : g.recs = .call f' args' need k val news tag :: recs)
      (h : g' = finish g o i rs (val fun q => if q < k then γ (g.n + q) else 0) tag (g.st.hp ++ news fun q => if q < k then γ (g.n + q) else 0) (g.n + k) recs
          ((.nat f, .nat f') :: (.vals args.toList, .vals (args' (addr g.st.hp))) :: (eqs (need (addr g.st.hp)) g.st.hp ++ m.E)) (need (addr g.st.hp)) (number g.st.hp.length (news fun q => if q < k then γ (g.n + q) else 0)) (2 * g.recs.length + 2))
  | fact (ds : List Nat) (rs : List (Nat × Value)) (hw : wants ops g.st.fr o = some (true, ds)) (hr : readSlots g.st.fr (ds ++ tmpsOf o) = some rs) (d : Nat) (need : (Nat → Nat) → List (Nat × Ent)) (s : (Nat → Nat) → Sem Next) (v : Value) (recs : List Rec)
      (hrec : g.recs = .fact d need s v :: recs)
      (h : g' = finish g o i rs v .no g.st.hp g.n recs ((.sem (execOp (ev g.st.fr) o), .sem (s (addr g.st.hp))) :: (eqs (need (addr g.st.hp)) g.st.hp ++ g.E)) (need (addr g.st.hp)) [] (2 * g.recs.length + 1))
  | eff (ds : List Nat) (rs : List (Nat × Value)) (hw : wants ops g.st.fr o = some (true, ds)) (hr : readSlots g.st.fr (ds ++ tmpsOf o) = some rs) (d : Option Nat) (deep : List Nat) (need : (Nat → Nat) → List (Nat × Ent)) (s : (Nat → Nat) → Sem Next) (k : Nat)
      (val : (Nat → Nat) → (Nat → Nat) → Value) (upd : (Nat → Nat) → (Nat → Nat) → List (Nat × Ent)) (news : (Nat → Nat) → (Nat → Nat) → List Ent) (tag : Tag) (recs : List Rec)
      (hrec : g.recs = .eff d deep need s k val upd news tag :: recs) (δ : Nat → Nat) (hδ : δ = fun q => if q < k then γ (g.n + q) else 0) (ls : List (Nat × Nat × Ent)) (hls : deepEnts g.st (tmpsOf o) deep = some ls)
      (σ : Nat → Nat) (hσ : σ = opσ (slot g.st.fr) (tmpsOf o) ls) (hu : ∀ p ∈ upd σ δ, p.1 < g.st.hp.length)
      (h : g' = finish g o i rs (val σ δ) tag (setAll g.st.hp (upd σ δ) ++ news σ δ) (g.n + k) recs ((.sem (execOp (ev g.st.fr) o), .sem (s σ)) :: (ls.map (fun p => (.nat p.2.2.g, .nat (opA (slot g.st.fr) (tmpsOf o) 0 p.1))) ++ (eqs (need σ) g.st.hp ++ g.E)))
          (need σ ++ ls.map (fun p => (p.2.1, p.2.2))) (upd σ δ ++ number g.st.hp.length (news σ δ)) (2 * g.recs.length + 2))

theorem run1_way {ds : List Nat} {rs : List (Nat × Value)} (hw : wants ops.toList g.st.fr o = some (true, ds)) (hr : readSlots g.st.fr (ds ++ tmpsOf o) = some rs) (h : run1 P γ o i rs g = some g') : Way P γ ops.toList o i g g' := by
  unfold run1 at h
  dsimp only at h
  split at h
  · cases h
  · rename_i nx m ha
    split at h
    · rename_i v
      split at h
      · rename_i rh wh h1 h2
        cases h
        exact .on ds rs hw hr _ v _ m ha (.inl rfl) rh wh h1 h2 rfl
      · cases h
    · split at h
      · rename_i rh wh h1 h2
        cases h
        exact .on ds rs hw hr _ undef _ m ha (.inr ⟨rfl, rfl⟩) rh wh h1 h2 rfl
      · cases h
    · rename_i f args
      split at h
      · rename_i f' args' need k val news tag recs hwr hrd hrec
        cases h
        exact .call ds rs hw hr f f' args m args' need k val news tag recs ha hwr hrd hrec rfl
      · cases h
    · cases h

theorem step1_way (h : step1 P γ ops.toList o i g = some g') : isSel o.op = false ∧ dstOk o.dst g.st.fr.length = true ∧ Way P γ ops.toList o i g g' := by
  unfold step1 at h
  split at h
  · cases h
  · rename_i hsd
    simp only [Bool.or_eq_true, Bool.not_eq_true', not_or, Bool.not_eq_true, Bool.not_eq_false] at hsd
    refine ⟨hsd.1, hsd.2, ?_⟩
    split at h
    · cases h
    · rename_i ds hw
      split at h
      · rename_i rs hr
        cases h
        exact .off ds rs hw hr rfl
      · cases h
    · rename_i ds hw
      split at h
      · cases h
      · rename_i rs hr
        split at h
        · rename_i d need s v recs hrec
          split at h
          · split at h
            · cases h
              exact .fact ds rs hw hr d need s v recs hrec rfl
            · exact run1_way hw hr h
          · exact run1_way hw hr h
        · rename_i d deep need s k val upd news tag recs hrec
          split at h
          · split at h
            · cases h
            · rename_i ls hls
              dsimp only at h
              split at h
              · rename_i hu
                cases h
                refine .eff ds rs hw hr d deep need s k val upd news tag recs hrec _ rfl ls hls _ rfl (fun p hp => ?_) rfl
                rw [List.all_eq_true] at hu
                simpa using hu p hp
              · cases h
          · exact run1_way hw hr h
        · exact run1_way hw hr h

/-- What every step is, by its looks. -/
structure Lex (g g' : G) (A : Actn) (o : Oper) (i : Nat) : Prop where
  acts : g'.acts = A :: g.acts
  i : A.i = i
  al : A.al = (g.n, g'.n - g.n)
  n : g.n ≤ g'.n
  len : g'.st.fr.length = g.st.fr.length
  E : ∃ l, g'.E = l ++ g.E
  recs : ∃ l, g.recs = l ++ g'.recs
  pre : A.Pre (toX g.st)
  app : A.app (toX g.st) = toX g'.st
  ws : ∃ v, A.ws = o.dst.map (·, v)

theorem X.ext' {x y : X} (h1 : ∀ t, x.sl t = y.sl t) (h2 : ∀ k, x.hp k = y.hp k) : x = y := by
  obtain ⟨a, b⟩ := x
  obtain ⟨c, d⟩ := y
  have e1 : a = c := funext h1
  have e2 : b = d := funext h2
  rw [e1, e2]

theorem finish_app (hd : dstOk o.dst g.st.fr.length = true) (rs : List (Nat × Value)) (v : Value) (tag : Tag) (hp : List Ent) (n : Nat) (recs : List Rec) (E : List (It × It)) (rh wh : List (Nat × Ent)) (rc : Nat)
    (hh : ∀ k, (match lookA wh k with | some e => some e | none => g.st.hp[k]?) = hp[k]?) :
    Actn.app ⟨i, rs, o.dst.map (·, v), rh, wh, (g.n, n - g.n), rc⟩ (toX g.st) = toX (finish g o i rs v tag hp n recs E rh wh rc).st := by
  refine X.ext' (fun t => ?_) (fun k => ?_)
  · exact (slot_setSlot g.st.fr o.dst v t hd).symm
  · exact hh k

theorem deepEnts_spec (st : St) (ts : List Nat) : ∀ (l : List Nat) (ls : List (Nat × Nat × Ent)), deepEnts st ts l = some ls → (∀ p ∈ ls, st.hp[p.2.1]? = some p.2.2) ∧ ls.map (·.1) = l
  | [], ls, h => by simp only [deepEnts, Option.some.injEq] at h; subst h; simp
  | i :: l, ls, h => by
    simp only [deepEnts] at h
    split at h
    · rename_i j _
      split at h
      · rename_i e r he hr
        cases h
        obtain ⟨h1, h2⟩ := deepEnts_spec st ts l r hr
        refine ⟨fun p hp => ?_, by simp [h2]⟩
        rcases List.mem_cons.1 hp with rfl | hp
        · exact he
        · exact h1 p hp
      · cases h
    · cases h

/-- Where the operands really lie. -/
def realσ (a : Act) (w : World) (ts deep : List Nat) (n : Nat) : Nat :=
  if n % 10000 < 100 then opA (fun t => a.tmps[t]?) ts (n / 10000) (n % 10000) else
  if n % 10000 / 100 - 1 ∈ deep then
    match w.heap[opA (fun t => a.tmps[t]?) ts 0 (n % 10000 / 100 - 1)]? with
    | some (.cells cs _ _) => kf (n / 10000) cs[n % 100]?
    | _ => 0
  else 0

theorem opσ_real {sl : Nat → Option Value} {ts deep : List Nat} {a : Act} {w : World} {ls : List (Nat × Nat × Ent)} (h1 : ∀ t ∈ ts, ∃ v, sl t = some v ∧ a.tmps[t]? = some v) (h2 : ls.map (·.1) = deep)
    (h3 : ∀ p ∈ ls, p.2.2.holds w ∧ p.2.2.g = opA sl ts 0 p.1) : opσ sl ts ls = realσ a w ts deep := by
  have hA : ∀ q i, opA sl ts q i = opA (fun t => a.tmps[t]?) ts q i := fun q i => by
    unfold opA
    cases hi : ts[i]? with
    | none => rfl
    | some t =>
      obtain ⟨v, e1, e2⟩ := h1 t (List.mem_of_getElem? hi)
      simp only [Option.bind_some, e1, e2]
  have hB : ∀ (ls : List (Nat × Nat × Ent)) (deep : List Nat), ls.map (·.1) = deep → (∀ p ∈ ls, p.2.2.holds w ∧ p.2.2.g = opA sl ts 0 p.1) → ∀ q k c, deepB ls q k c = if k ∈ deep then
      match w.heap[opA (fun t => a.tmps[t]?) ts 0 k]? with
      | some (.cells cs _ _) => kf q cs[c]?
      | _ => 0
    else 0 := by
    intro ls
    induction ls with
    | nil => intro deep h _ q k c; rw [← h]; simp [deepB]
    | cons p ls ih =>
      intro deep h h3 q k c
      obtain ⟨i, j, e⟩ := p
      rw [← h]
      simp only [List.map_cons, deepB, List.mem_cons]
      by_cases hik : i = k
      · subst hik
        obtain ⟨e1, e2⟩ := h3 (i, j, e) (by simp)
        rw [if_pos rfl, if_pos (.inl rfl), ← hA, ← e2]
        obtain ⟨fr, e1, _⟩ := e1
        rw [e1]
        simp
      · rw [if_neg hik, ih _ rfl (fun p hp => h3 p (List.mem_cons_of_mem _ hp))]
        by_cases hm : k ∈ ls.map (·.1)
        · rw [if_pos hm, if_pos (.inr hm)]
        · rw [if_neg hm, if_neg (fun hh => hh.elim (fun h4 => hik h4.symm) hm)]
  funext n
  unfold opσ realσ
  by_cases hn : n % 10000 < 100
  · rw [if_pos hn, if_pos hn, hA]
  · rw [if_neg hn, if_neg hn, hB ls deep h2 h3]

theorem setAll_len (hp : List Ent) : ∀ l : List (Nat × Ent), (setAll hp l).length = hp.length
  | [] => rfl
  | (j, e) :: l => by simp only [setAll, List.length_set]; exact setAll_len hp l

theorem setAll_get (hp : List Ent) (k : Nat) : ∀ l : List (Nat × Ent), (∀ p ∈ l, p.1 < hp.length) → (setAll hp l)[k]? = match lookA l k with | some e => some e | none => hp[k]?
  | [], _ => rfl
  | (j, e) :: l, h => by
    have ih := setAll_get hp k l (fun p hp => h p (List.mem_cons_of_mem _ hp))
    simp only [setAll, lookA]
    rw [List.getElem?_set]
    by_cases hj : j = k
    · subst hj
      have := h (j, e) (by simp)
      rw [if_pos rfl, if_pos (by rw [setAll_len]; exact this), if_pos rfl]
    · rw [if_neg hj, if_neg hj, ih]

theorem lookA_app {β : Type} (m : List (Nat × β)) (k : Nat) : ∀ l : List (Nat × β), lookA (l ++ m) k = match lookA l k with | some e => some e | none => lookA m k
  | [] => rfl
  | (j, e) :: l => by
    simp only [List.cons_append, lookA]
    by_cases hj : j = k
    · rw [if_pos hj, if_pos hj]
    · rw [if_neg hj, if_neg hj, lookA_app m k l]

theorem lookA_ge {l : List (Nat × Ent)} {n k : Nat} (h : ∀ p ∈ l, p.1 < n) (hk : n ≤ k) : lookA l k = none := by
  cases hl : lookA l k with
  | none => rfl
  | some e =>
    have h1 := h _ (lookA_mem _ _ _ hl)
    have h2 : k < n := h1
    omega

theorem way_lex (hd : dstOk o.dst g.st.fr.length = true) (hE : EqOk g'.E) (h : Way P γ ops.toList o i g g') : ∃ A, Lex g g' A o i := by
  cases h with
  | off ds rs hw hr h =>
    subst h
    have hs := readSlots_spec _ _ _ hr
    exact ⟨_, rfl, rfl, rfl, Nat.le_refl _, length_setSlot _ _ _, ⟨[], rfl⟩, ⟨[], rfl⟩, ⟨fun p hp => hs.1 p hp, fun p hp => by cases hp⟩, finish_app hd rs undef .no g.st.hp g.n g.recs g.E [] [] 0 (fun k => rfl), ⟨undef, rfl⟩⟩
  | on ds rs hw hr nx v tag m ha hn rh wh h1 h2 h =>
    subst h
    have hs := readSlots_spec _ _ _ hr
    have hx := arun_ext _ _ _ _ ha
    obtain ⟨lw, k1, k2, k3, k4, k5⟩ := arun_shp _ _ _ _ ha
    have hrh := readEnts_spec _ _ _ h1
    have hwh := readEnts_spec _ _ _ h2
    refine ⟨_, rfl, rfl, rfl, hx.n, length_setSlot _ _ _, hx.E, ⟨[], rfl⟩, ⟨fun p hp => hs.1 p hp, fun p hp => hrh.1 p hp⟩, finish_app hd rs v tag m.hp m.n g.recs m.E rh wh 0 (fun k => ?_), ⟨v, rfl⟩⟩
    cases hl : lookA wh k with
    | some e => exact (hwh.1 (k, e) (lookA_mem _ _ _ hl)).symm
    | none =>
      have hk := lookA_none _ _ hl
      rw [hwh.2, k1] at hk
      simp only [List.append_nil] at hk
      dsimp only
      by_cases hkl : k < g.st.hp.length
      · exact (k2 k hkl hk).symm
      · have e1 : g.st.hp[k]? = none := List.getElem?_eq_none (by omega)
        rw [e1]
        by_cases hkm : k < m.hp.length
        · exact absurd (k4 k (by dsimp only; omega) hkm) hk
        · exact (List.getElem?_eq_none (by omega)).symm
  | call ds rs hw hr f f' args m args' need k val news tag recs ha hwr hrd hrec h =>
    subst h
    have hs := readSlots_spec _ _ _ hr
    have hx := arun_ext _ _ _ _ ha
    obtain ⟨l, hl⟩ := hx.E
    have hneed : ∀ p ∈ need (addr g.st.hp), g.st.hp[p.1]? = some p.2 := eqs_ok (need (addr g.st.hp)) g.st.hp m.E hE.cons.2.cons.2
    refine ⟨_, rfl, rfl, rfl, Nat.le_add_right _ _, length_setSlot _ _ _, ⟨(It.nat f, It.nat f') :: (It.vals args.toList, It.vals (args' (addr g.st.hp))) :: (eqs (need (addr g.st.hp)) g.st.hp ++ l), by simp [finish, hl]⟩, ⟨[_], hrec⟩, ⟨fun p hp => hs.1 p hp, fun p hp => hneed p hp⟩, finish_app hd rs _ tag _ _ recs _ _ _ _ (fun q => ?_), ⟨_, rfl⟩⟩
    rw [number_look, List.getElem?_append]
    by_cases hq : q < g.st.hp.length
    · rw [if_neg (by omega), if_pos hq]
    · rw [if_pos (by omega), if_neg hq]
      split
      · rename_i e he; exact he.symm
      · rename_i he
        rw [he]
        exact List.getElem?_eq_none (by omega)
  | fact ds rs hw hr d need s v recs hrec h =>
    subst h
    have hs := readSlots_spec _ _ _ hr
    have hneed : ∀ p ∈ need (addr g.st.hp), g.st.hp[p.1]? = some p.2 := eqs_ok (need (addr g.st.hp)) g.st.hp g.E hE.cons.2
    exact ⟨_, rfl, rfl, rfl, Nat.le_refl _, length_setSlot _ _ _, ⟨(It.sem (execOp (ev g.st.fr) o), It.sem (s (addr g.st.hp))) :: eqs (need (addr g.st.hp)) g.st.hp, by simp [finish]⟩, ⟨[_], hrec⟩, ⟨fun p hp => hs.1 p hp, fun p hp => hneed p hp⟩, finish_app hd rs v .no g.st.hp g.n recs _ (need (addr g.st.hp)) [] _ (fun k => rfl), ⟨v, rfl⟩⟩
  | eff ds rs hw hr d deep need s k val upd news tag recs hrec δ hδ ls hls σ hσ hu h =>
    subst h
    have hs := readSlots_spec _ _ _ hr
    have hneed : ∀ p ∈ need σ, g.st.hp[p.1]? = some p.2 := eqs_ok (need σ) g.st.hp g.E hE.cons.2.app
    refine ⟨_, rfl, rfl, rfl, Nat.le_add_right _ _, length_setSlot _ _ _, ⟨(It.sem (execOp (ev g.st.fr) o), It.sem (s σ)) :: (ls.map (fun p => (It.nat p.2.2.g, It.nat (opA (slot g.st.fr) (tmpsOf o) 0 p.1))) ++ eqs (need σ) g.st.hp), by simp [finish]⟩, ⟨[_], hrec⟩, ⟨fun p hp => hs.1 p hp, fun p hp => ?_⟩, finish_app hd rs _ tag _ _ recs _ _ _ _ (fun q => ?_), ⟨_, rfl⟩⟩
    · rcases List.mem_append.1 hp with hp | hp
      · exact hneed p hp
      · rw [List.mem_map] at hp
        obtain ⟨p', hp', rfl⟩ := hp
        exact (deepEnts_spec _ _ _ _ hls).1 p' hp'
    rw [lookA_app, number_look, List.getElem?_append, setAll_len, setAll_get _ _ _ hu]
    by_cases hq : q < g.st.hp.length
    · rw [if_neg (by omega), if_pos hq]
      cases lookA (upd σ δ) q <;> rfl
    · rw [if_pos (by omega), if_neg hq, lookA_ge hu (by omega)]
      dsimp only
      split
      · rename_i e he; exact he.symm
      · rename_i he
        rw [he]
        exact List.getElem?_eq_none (by omega)

theorem Mod.keepPut {x : X} {a : Act} {w : World} (h : Mod w0 N x a w) (d : Option Nat) (v : Value) (hd : dstOk d N = true) :
    Mod w0 N ⟨fun t => match d.map (·, v) with | some (d, v) => if t = d then some v else x.sl t | none => x.sl t, x.hp⟩ (a.put d v) w :=
  ⟨by rw [put_defers]; exact h.defers, by rw [put_size]; exact h.size, put_slot h.size hd x.sl h.slot, h.below, h.hold, h.own, h.diff⟩

/-- An operation that calls nothing. -/
theorem way_real (hsel : isSel o.op = false) (hd : dstOk o.dst N = true) (hE : EqOk g'.E) (hrec : ∀ r ∈ g.recs, r.OkF P w0) (h : Way P γ ops.toList o i g g') {A : Actn} (hA : g'.acts = A :: g.acts)
    (hc : A.rc % 2 = 1 ∨ A.rc = 0) {x : X} {a : Act} {w : World} (hm : Mod w0 N x a w) (hp : A.Pre x) (hn : ∀ q, q < A.al.2 → γ (A.al.1 + q) = w.heap.size + q) :
    ∃ v w', Real P ops o a w v w' ∧ Mod w0 N (A.app x) (a.put o.dst v) w' := by
  cases h with
  | off ds rs hw hr h =>
    subst h
    simp only [finish, List.cons.injEq, and_true] at hA
    subst hA
    have hs := readSlots_spec _ _ _ hr
    refine ⟨undef, w, .inl ⟨wants_spec hw (fun d hdm v hv => ?_), rfl, rfl⟩, hm.keepPut o.dst undef hd⟩
    have : d ∈ rs.map (·.1) := by rw [hs.2]; exact hdm
    rw [List.mem_map] at this
    obtain ⟨p, hpm, rfl⟩ := this
    have e1 := hs.1 p hpm
    rw [hv] at e1
    cases e1
    exact hm.slot _ _ (hp.1 p hpm)
  | fact ds rs hw hr d need s v recs hrec' h =>
    subst h
    simp only [finish, List.cons.injEq, and_true] at hA
    subst hA
    have hs := readSlots_spec _ _ _ hr
    have hsl : ∀ p ∈ rs, a.tmps[p.1]? = some p.2 := fun p hpm => hm.slot _ _ (hp.1 p hpm)
    have hrun : (execOp a.eval o).run P w = .ok (.value v) w := by
      rw [ev_congr hsel hr hsl]
      have e1 := hE.cons.1
      injection e1 with e1
      rw [e1]
      have hok : Rec.OkF P w0 (.fact d need s v) := hrec _ (by rw [hrec']; simp)
      exact hok _ w hm.below (fun p hpm => hm.hold _ _ (hp.2 p hpm))
    refine ⟨v, w, .inr ⟨wants_spec hw (fun d hdm u hv => ?_), .inl hrun⟩, hm.keepPut o.dst v hd⟩
    have : d ∈ rs.map (·.1) := by rw [hs.2]; exact List.mem_append_left _ hdm
    rw [List.mem_map] at this
    obtain ⟨p, hpm, rfl⟩ := this
    have e1 := hs.1 p hpm
    rw [hv] at e1
    cases e1
    exact hsl p hpm
  | call ds rs hw hr f f' args m args' need k val news tag recs ha hwr hrd hrec' h =>
    subst h
    simp only [finish, List.cons.injEq, and_true] at hA
    subst hA
    dsimp only at hc
    omega
  | eff ds rs hw hr d deep need s k val upd news tag recs hrec' δ hδ ls hls σ hσ hu h =>
    subst h
    simp only [finish, List.cons.injEq, and_true] at hA
    subst hA
    dsimp only at hc
    omega
  | on ds rs hw hr nx v tag m ha hnx rh wh h1 h2 h =>
    subst h
    simp only [finish, List.cons.injEq, and_true] at hA
    subst hA
    have hs := readSlots_spec _ _ _ hr
    have hrh := readEnts_spec _ _ _ h1
    have hwh := readEnts_spec _ _ _ h2
    have hsl : ∀ p ∈ rs, a.tmps[p.1]? = some p.2 := fun p hpm => hm.slot _ _ (hp.1 p hpm)
    have hrx : ∀ j ∈ m.rd, ∀ e, g.st.hp[j]? = some e → x.hp j = some e := by
      intro j hj e he
      have : j ∈ rh.map (·.1) := by rw [hrh.2]; exact hj
      rw [List.mem_map] at this
      obtain ⟨p, hpm, rfl⟩ := this
      have e1 := hrh.1 p hpm
      rw [he] at e1
      cases e1
      exact hp.2 p hpm
    have hi : Inv (fun j => j ∈ m.rd) g.st.hp w :=
      ⟨fun j e hj he => hm.hold j e (hrx j hj e he), fun j j' e e' hj hj' hne he he' ho => hm.diff j j' e e' hne (hrx j hj e he) (hrx j' hj' e' he') ho⟩
    have hx := arun_ext _ _ _ _ ha
    obtain ⟨w', lw, hrun, hlw, hR⟩ := arun_sound _ (fun j => j ∈ m.rd) _ _ _ w ha hE hi (fun j hj => hj) (fun q hq => hn q (by dsimp only at hq ⊢; omega))
    simp only [List.append_nil] at hlw
    have hrun' : (execOp a.eval o).run P w = .ok nx w' := by rw [ev_congr hsel hr hsl]; exact hrun
    have hwant : Region.wanted o (yielded ops a.tmps) = true := by
      refine wants_spec hw (fun d hdm u hv => ?_)
      have : d ∈ rs.map (·.1) := by rw [hs.2]; exact List.mem_append_left _ hdm
      rw [List.mem_map] at this
      obtain ⟨p, hpm, rfl⟩ := this
      have e1 := hs.1 p hpm
      rw [hv] at e1
      cases e1
      exact hsl p hpm
    refine ⟨v, w', .inr ⟨hwant, ?_⟩, ?_⟩
    · rcases hnx with rfl | ⟨rfl, rfl⟩
      · exact .inl hrun'
      · exact .inr ⟨hrun', rfl⟩
    · obtain ⟨r1, r2, r3, r4, r5, r6, r7, r8, r9, r10, r11, r12, r13, r14⟩ := hR
      dsimp only at r1 r2 r6 r7 r8 r9 r10 r11 r12
      have hsz : w.heap.size ≤ w'.heap.size := by omega
      -- what stands in the new heap, and where it comes from
      have hmem : ∀ k e, lookA wh k = some e → k ∈ lw ∧ m.hp[k]? = some e := fun k e hl => by
        have h1' := lookA_mem _ _ _ hl
        have h2' := hwh.1 _ h1'
        have h3' : k ∈ wh.map (·.1) := List.mem_map.2 ⟨_, h1', rfl⟩
        rw [hwh.2, hlw] at h3'
        exact ⟨h3', h2'⟩
      have hnon : ∀ k, lookA wh k = none → k ∉ lw := fun k hl => by
        have := lookA_none _ _ hl
        rw [hwh.2, hlw] at this
        exact this
      have hold' : ∀ k e, lookA wh k = some e → ∃ e0 : Ent, (x.hp k = some e0 ∧ e.g = e0.g ∧ e.own = e0.own ∧ e0.own = true ∧ k < g.st.hp.length) ∨ (g.st.hp.length ≤ k ∧ e.own = true ∧ w.heap.size ≤ e.g) := fun k e hl => by
        obtain ⟨hk, he⟩ := hmem k e hl
        by_cases hkl : k < g.st.hp.length
        · have hg0 : g.st.hp[k]? = some g.st.hp[k] := List.getElem?_eq_getElem hkl
          obtain ⟨ho, hrd⟩ := r12 k hk _ hg0
          obtain ⟨e', he', q1, q2⟩ := r9 k _ hg0
          rw [he] at he'
          cases he'
          exact ⟨g.st.hp[k], .inl ⟨hrx k hrd _ hg0, q1, q2, ho, hkl⟩⟩
        · obtain ⟨_, q2, q3⟩ := r11 k e (by omega) he
          exact ⟨e, .inr ⟨by omega, q2, q3⟩⟩
      have hA' : ∀ k e, lookA wh k = some e → (k ∈ m.rd ∨ g.st.hp.length ≤ k) := fun k e hl => by
        obtain ⟨hk, he⟩ := hmem k e hl
        by_cases hkl : k < g.st.hp.length
        · exact .inl (r12 k hk _ (List.getElem?_eq_getElem hkl)).2
        · exact .inr (by omega)
      have hkeep : ∀ k e, lookA wh k = none → x.hp k = some e → e.holds w' := fun k e hl he => by
        have hh := hm.hold k e he
        have hlt := hh.lt
        unfold Ent.holds at hh ⊢
        rw [r7 e.g hlt (fun j hj f hf => ?_)]
        · exact hh
        · obtain ⟨ho, hrd⟩ := r12 j hj f hf
          exact hm.diff j k f e (fun hjk => hnon k hl (hjk ▸ hj)) (hrx j hrd f hf) he ho
      refine ⟨by rw [put_defers]; exact hm.defers, by rw [put_size]; exact hm.size, put_slot hm.size hd x.sl hm.slot, ?_, ?_, ?_, ?_⟩
      · refine hm.below.step r3 r4 r5 hsz (fun b hb hlt => r7 b hlt (fun j hj f hf hh => ?_))
        obtain ⟨ho, hrd⟩ := r12 j hj f hf
        exact hm.own j f (hrx j hrd f hf) ho (hh ▸ hb)
      · intro k e he
        simp only [Actn.app] at he
        split at he
        · rename_i e' hl
          cases he
          obtain ⟨hk, he⟩ := hmem k e hl
          exact r6.hold k e (hA' k e hl) he
        · rename_i hl
          exact hkeep k e hl he
      · intro k e he ho
        simp only [Actn.app] at he
        split at he
        · rename_i e' hl
          cases he
          obtain ⟨e0, hor⟩ := hold' k e hl
          rcases hor with ⟨q1, q2, q3, q4, _⟩ | ⟨_, _, q3⟩
          · rw [q2]; exact hm.own k e0 q1 q4
          · exact hm.below.fresh q3
        · exact hm.own k e he ho
      · intro k k' e e' hne he he' ho
        simp only [Actn.app] at he he'
        split at he <;> split at he'
        · rename_i f hl _ f' hl'
          cases he
          cases he'
          obtain ⟨hk, hke⟩ := hmem k e hl
          obtain ⟨hk', hke'⟩ := hmem k' e' hl'
          exact r6.diff k k' e e' (hA' k e hl) (hA' k' e' hl') hne hke hke' ho
        · rename_i f hl _ hl'
          cases he
          obtain ⟨e0, hor⟩ := hold' k e hl
          rcases hor with ⟨q1, q2, q3, q4, _⟩ | ⟨_, _, q3⟩
          · rw [q2]; exact hm.diff k k' e0 e' hne q1 he' q4
          · have := (hm.hold k' e' he').lt
            omega
        · rename_i hl _ f' hl'
          cases he'
          obtain ⟨e0, hor⟩ := hold' k' e' hl'
          rcases hor with ⟨q1, q2, q3, q4, _⟩ | ⟨_, _, q3⟩
          · rw [q2]; exact hm.diff k k' e e0 hne he q1 ho
          · have := (hm.hold k e he).lt
            omega
        · exact hm.diff k k' e e' hne he he' ho

/-- What is told of an operation that turns blocks. -/
theorem Mod.eff {x : X} {a : Act} {w w' : World} (hm : Mod w0 N x a w) {need upd : List (Nat × Ent)} {news : List Ent} {L : Nat} (hn : ∀ p ∈ need, x.hp p.1 = some p.2) (h : Done w w' need upd news)
    {d : Option Nat} (hd : dstOk d N = true) (v : Value) {i : Nat} {rs : List (Nat × Value)} {rh : List (Nat × Ent)} {al : Nat × Nat} {rc : Nat} :
    Mod w0 N (Actn.app ⟨i, rs, d.map (·, v), rh, upd ++ number L news, al, rc⟩ x) (a.put d v) w' := by
  have hidx : ∀ j ∈ upd.map (·.1), ∃ e0 : Ent, x.hp j = some e0 ∧ e0.own = true := fun j hj => by
    rw [List.mem_map] at hj
    obtain ⟨p, hp, rfl⟩ := hj
    obtain ⟨_, e0, h1, h2, _⟩ := h.upds p hp
    exact ⟨e0, hn _ h1, h2⟩
  have hlook : ∀ k e, lookA (upd ++ number L news) k = some e → ((k, e) ∈ upd) ∨ (lookA upd k = none ∧ L ≤ k ∧ news[k - L]? = some e) := fun k e hl => by
    rw [lookA_app] at hl
    cases hu : lookA upd k with
    | some e' =>
      rw [hu] at hl
      cases hl
      exact .inl (lookA_mem _ _ _ hu)
    | none =>
      rw [hu] at hl
      dsimp only at hl
      rw [number_look] at hl
      split at hl
      · exact .inr ⟨rfl, by assumption, hl⟩
      · cases hl
  have hnone : ∀ k, lookA (upd ++ number L news) k = none → k ∉ upd.map (·.1) := fun k hl hk => by
    rw [lookA_app] at hl
    cases hu : lookA upd k with
    | some e' => rw [hu] at hl; cases hl
    | none => exact lookA_none _ _ hu hk
  have hkeep : ∀ k e, lookA (upd ++ number L news) k = none → x.hp k = some e → e.holds w' := fun k e hl he => by
    have hh := hm.hold k e he
    have hlt := hh.lt
    unfold Ent.holds at hh ⊢
    rw [h.frame e.g hlt (fun p hp hpi => ?_)]
    · exact hh
    · obtain ⟨e0, h1, h2⟩ := hidx _ hpi
      have h3 := hn p hp
      rw [h1] at h3
      cases h3
      exact hm.diff p.1 k p.2 e (fun hpk => hnone k hl (hpk ▸ hpi)) h1 he h2
  refine ⟨by rw [put_defers]; exact hm.defers, by rw [put_size]; exact hm.size, put_slot hm.size hd x.sl hm.slot, ?_, ?_, ?_, ?_⟩
  · refine hm.below.step h.os h.tape h.output h.size (fun b hb hlt => h.frame b hlt (fun p hp hpi hh => ?_))
    obtain ⟨e0, h1, h2⟩ := hidx _ hpi
    have h3 := hn p hp
    rw [h1] at h3
    cases h3
    exact hm.own p.1 p.2 h1 h2 (hh ▸ hb)
  · intro k e he
    simp only [Actn.app] at he
    split at he
    · rename_i e' hl
      cases he
      rcases hlook k e hl with hu | ⟨_, _, hu⟩
      · exact (h.upds _ hu).1
      · exact (h.new e (List.mem_of_getElem? hu)).1
    · rename_i hl
      exact hkeep k e hl he
  · intro k e he ho
    simp only [Actn.app] at he
    split at he
    · rename_i e' hl
      cases he
      rcases hlook k e hl with hu | ⟨_, _, hu⟩
      · obtain ⟨_, e0, h1, h2, h3⟩ := h.upds _ hu
        rcases h3 with h3 | h3
        · have h3' : e.g = e0.g := h3
          rw [h3']
          exact hm.own k e0 (hn _ h1) h2
        · exact hm.below.fresh h3
      · exact hm.below.fresh (h.new e (List.mem_of_getElem? hu)).2
    · exact hm.own k e he ho
  · intro k k' e e' hne he he' ho
    simp only [Actn.app] at he he'
    split at he <;> split at he'
    · rename_i f hl _ f' hl'
      cases he
      cases he'
      rcases hlook k e hl with hu | ⟨_, hk, hu⟩ <;> rcases hlook k' e' hl' with hu' | ⟨_, hk', hu'⟩
      · exact h.diff _ hu _ hu' hne
      · exact h.diffn _ hu _ (List.mem_of_getElem? hu')
      · exact fun hh => h.diffn _ hu' _ (List.mem_of_getElem? hu) hh.symm
      · rcases Nat.lt_or_ge k k' with hlt' | hge
        · have := List.pairwise_iff_getElem.1 h.pw (k - L) (k' - L) (lt_of_get hu) (lt_of_get hu') (by omega)
          rw [List.getElem?_eq_getElem (lt_of_get hu)] at hu
          rw [List.getElem?_eq_getElem (lt_of_get hu')] at hu'
          rw [← Option.some.inj hu, ← Option.some.inj hu']
          exact this
        · have := List.pairwise_iff_getElem.1 h.pw (k' - L) (k - L) (lt_of_get hu') (lt_of_get hu) (by omega)
          rw [List.getElem?_eq_getElem (lt_of_get hu)] at hu
          rw [List.getElem?_eq_getElem (lt_of_get hu')] at hu'
          rw [← Option.some.inj hu, ← Option.some.inj hu']
          exact fun hh => this hh.symm
    · rename_i f hl _ hl'
      cases he
      rcases hlook k e hl with hu | ⟨_, hk, hu⟩
      · obtain ⟨_, e0, h1, h2, h3⟩ := h.upds _ hu
        rcases h3 with h3 | h3
        · have := hm.diff k k' e0 e' hne (hn _ h1) he' h2
          have h3' : e.g = e0.g := h3
          rw [h3']
          exact this
        · have := (hm.hold k' e' he').lt
          have h3' : w.heap.size ≤ e.g := h3
          omega
      · have := (h.new e (List.mem_of_getElem? hu)).2
        have := (hm.hold k' e' he').lt
        omega
    · rename_i hl _ f' hl'
      cases he'
      rcases hlook k' e' hl' with hu | ⟨_, hk, hu⟩
      · obtain ⟨_, e0, h1, h2, h3⟩ := h.upds _ hu
        rcases h3 with h3 | h3
        · have := hm.diff k k' e e0 hne he (hn _ h1) ho
          have h3' : e'.g = e0.g := h3
          rw [h3']
          exact this
        · have := (hm.hold k e he).lt
          have h3' : w.heap.size ≤ e'.g := h3
          omega
      · have := (h.new e' (List.mem_of_getElem? hu)).2
        have := (hm.hold k e he).lt
        omega
    · exact hm.diff k k' e e' hne he he' ho

/-- A call, or what is told of an operation. -/
theorem way_call (hsel : isSel o.op = false) (hd : dstOk o.dst N = true) (hE : EqOk g'.E) (h : Way P γ ops.toList o i g g') {A : Actn} (hA : g'.acts = A :: g.acts)
    (hc : ¬ (A.rc % 2 = 1 ∨ A.rc = 0)) : (∃ d deep need s k val upd news tag recs, ∃ σ : Nat → Nat, g.recs = .eff d deep need s k val upd news tag :: recs ∧ A.rc = 2 * g.recs.length + 2 ∧ A.al = (g.n, k) ∧
      ∀ (x : X) (a : Act) (w : World), Mod w0 N x a w → A.Pre x →
        Region.wanted o (yielded ops a.tmps) = true ∧ execOp a.eval o = s σ ∧ σ = realσ a w (tmpsOf o) deep ∧ (∀ p ∈ need σ, p.2.holds w) ∧ (∀ p ∈ need σ, ∀ q ∈ need σ, p.1 ≠ q.1 → p.2.own = true → p.2.g ≠ q.2.g) ∧
        ∀ (δ : Nat → Nat) (w' : World), (∀ q, (if q < k then γ (g.n + q) else 0) = δ q) → Done w w' (need σ) (upd σ δ) (news σ δ) → Mod w0 N (A.app x) (a.put o.dst (val σ δ)) w') ∨
    (∃ f args need k val news tag recs, g.recs = .call f args need k val news tag :: recs ∧ A.rc = 2 * g.recs.length + 2 ∧ A.al = (g.n, k) ∧
      ∀ (x : X) (a : Act) (w : World), Mod w0 N x a w → A.Pre x →
        Region.wanted o (yielded ops a.tmps) = true ∧ (execOp a.eval o).run P w = .ok (.enter f (args (addr g.st.hp)).toArray) w ∧ (∀ p ∈ need (addr g.st.hp), p.2.holds w) ∧
        ∀ (δ : Nat → Nat) (w' : World), (∀ q, (if q < k then γ (g.n + q) else 0) = δ q) → Below w.heap.size w w' → (∀ e ∈ news δ, e.holds w' ∧ w.heap.size ≤ e.g) → (news δ).Pairwise (fun a b => a.g ≠ b.g) →
          Mod w0 N (A.app x) (a.put o.dst (val δ)) w') := by
  cases h with
  | eff ds rs hw hr d deep need s k val upd news tag recs hrec' δ0 hδ0 ls hls σ hσ hu h =>
    subst h
    simp only [finish, List.cons.injEq, and_true] at hA
    subst hA
    have hs := readSlots_spec _ _ _ hr
    refine .inl ⟨d, deep, need, s, k, val, upd, news, tag, recs, σ, hrec', rfl, by simp, fun x a w hm hp => ?_⟩
    have hsl : ∀ p ∈ rs, a.tmps[p.1]? = some p.2 := fun p hpm => hm.slot _ _ (hp.1 p hpm)
    have hwant : Region.wanted o (yielded ops a.tmps) = true := by
      refine wants_spec hw (fun d hdm u hv => ?_)
      have : d ∈ rs.map (·.1) := by rw [hs.2]; exact List.mem_append_left _ hdm
      rw [List.mem_map] at this
      obtain ⟨p, hpm, rfl⟩ := this
      have e1 := hs.1 p hpm
      rw [hv] at e1
      cases e1
      exact hsl p hpm
    have e1 := hE.cons.1
    injection e1 with e1
    have hpn : ∀ p ∈ need σ, x.hp p.1 = some p.2 := fun p hpm => hp.2 p (List.mem_append_left _ hpm)
    have hpl : ∀ p ∈ ls, x.hp p.2.1 = some p.2.2 := fun p hpm => hp.2 (p.2.1, p.2.2) (List.mem_append_right _ (List.mem_map.2 ⟨p, hpm, rfl⟩))
    have hg : ∀ (l : List (Nat × Nat × Ent)) (E : List (It × It)), EqOk (l.map (fun p => (It.nat p.2.2.g, It.nat (opA (slot g.st.fr) (tmpsOf o) 0 p.1))) ++ E) → ∀ p ∈ l, p.2.2.g = opA (slot g.st.fr) (tmpsOf o) 0 p.1 := by
      intro l
      induction l with
      | nil => intro E _ p hp; cases hp
      | cons q l ih =>
        intro E h p hp
        rw [List.map_cons, List.cons_append] at h
        rcases List.mem_cons.1 hp with rfl | hp
        · exact It.nat_inj h.cons.1
        · exact ih E h.cons.2 p hp
    have hreal : σ = realσ a w (tmpsOf o) deep := by
      rw [hσ]
      refine opσ_real (fun t ht => ?_) (deepEnts_spec _ _ _ _ hls).2 (fun p hpm => ⟨hm.hold _ _ (hpl p hpm), hg ls _ hE.cons.2 p hpm⟩)
      have : t ∈ rs.map (·.1) := by rw [hs.2]; exact List.mem_append_right _ ht
      rw [List.mem_map] at this
      obtain ⟨p, hpm, rfl⟩ := this
      exact ⟨p.2, hs.1 p hpm, hsl p hpm⟩
    refine ⟨hwant, by rw [ev_congr hsel hr hsl, e1], hreal, fun p hpm => hm.hold _ _ (hpn p hpm), fun p hpm q hqm hne ho => hm.diff _ _ _ _ hne (hpn p hpm) (hpn q hqm) ho, fun δ w' hδ hdone => ?_⟩
    have hδ' : δ0 = δ := by rw [hδ0]; exact funext hδ
    subst hδ'
    exact hm.eff hpn hdone hd _
  | off ds rs hw hr h =>
    subst h
    simp only [finish, List.cons.injEq, and_true] at hA
    subst hA
    exact absurd (.inr rfl) hc
  | on ds rs hw hr nx v tag m ha hnx rh wh h1 h2 h =>
    subst h
    simp only [finish, List.cons.injEq, and_true] at hA
    subst hA
    exact absurd (.inr rfl) hc
  | fact ds rs hw hr d need s v recs hrec' h =>
    subst h
    simp only [finish, List.cons.injEq, and_true] at hA
    subst hA
    exact absurd (.inl (by dsimp only; omega)) hc
  | call ds rs hw hr f f' args m args' need k val news tag recs ha hwr hrd hrec' h =>
    subst h
    simp only [finish, List.cons.injEq, and_true] at hA
    subst hA
    have hs := readSlots_spec _ _ _ hr
    have e1 := It.nat_inj hE.cons.1
    have e2 := hE.cons.2.cons.1
    injection e2 with e2
    refine .inr ⟨f', args', need, k, val, news, tag, recs, hrec', rfl, by simp, fun x a w hm hp => ?_⟩
    have hsl : ∀ p ∈ rs, a.tmps[p.1]? = some p.2 := fun p hpm => hm.slot _ _ (hp.1 p hpm)
    have hwant : Region.wanted o (yielded ops a.tmps) = true := by
      refine wants_spec hw (fun d hdm u hv => ?_)
      have : d ∈ rs.map (·.1) := by rw [hs.2]; exact List.mem_append_left _ hdm
      rw [List.mem_map] at this
      obtain ⟨p, hpm, rfl⟩ := this
      have e1 := hs.1 p hpm
      rw [hv] at e1
      cases e1
      exact hsl p hpm
    have hEm : EqOk m.E := EqOk.app (l := eqs (need (addr g.st.hp)) g.st.hp) hE.cons.2.cons.2
    obtain ⟨lw0, k1, k2, k3, k4, k5⟩ := arun_shp _ _ _ _ ha
    rw [hwr] at k1
    simp only [List.append_nil] at k1
    have hmn := (k5 k1.symm).1
    obtain ⟨w', lw, hrun, hlw, hR⟩ := arun_sound _ (fun _ => False) _ _ _ w ha hEm ⟨fun j e hj => hj.elim, fun j j' e e' hj => hj.elim⟩ (fun j hj => by rw [hrd] at hj; cases hj) (fun q hq => by rw [hmn] at hq; dsimp only at hq; omega)
    rw [hwr] at hlw
    simp only [List.append_nil] at hlw
    have hw' := (hR.nil hlw.symm).1
    subst hw'
    refine ⟨hwant, ?_, fun p hpm => hm.hold _ _ (hp.2 p hpm), ?_⟩
    · rw [ev_congr hsel hr hsl, hrun, e1, ← e2]
    · intro δ w2 hδ hb hnews hpw
      have hδ' : (fun q => if q < k then γ (g.n + q) else 0) = δ := funext hδ
      rw [hδ']
      have hlt : ∀ q e, x.hp q = some e → e.holds w2 := fun q e he => by
        have hh := hm.hold q e he
        have := hh.lt
        unfold Ent.holds at hh ⊢
        rw [hb.block e.g this]
        exact hh
      have hnl : ∀ q e, lookA (number g.st.hp.length (news δ)) q = some e → (news δ)[q - g.st.hp.length]? = some e ∧ g.st.hp.length ≤ q := fun q e hl => by
        rw [number_look] at hl
        split at hl
        · exact ⟨hl, by assumption⟩
        · cases hl
      refine ⟨by rw [put_defers]; exact hm.defers, by rw [put_size]; exact hm.size, put_slot hm.size hd x.sl hm.slot, ?_, ?_, ?_, ?_⟩
      · exact hm.below.trans hb
      · intro q e he
        simp only [Actn.app] at he
        split at he
        · rename_i e' hl
          cases he
          exact (hnews e (List.mem_of_getElem? (hnl q e hl).1)).1
        · exact hlt q e he
      · intro q e he ho
        simp only [Actn.app] at he
        split at he
        · rename_i e' hl
          cases he
          exact hm.below.fresh (hnews e (List.mem_of_getElem? (hnl q e hl).1)).2
        · exact hm.own q e he ho
      · intro q q' e e' hne he he' ho
        simp only [Actn.app] at he he'
        split at he <;> split at he'
        · rename_i f hl _ f' hl'
          cases he
          cases he'
          obtain ⟨u1, u2⟩ := hnl q e hl
          obtain ⟨u1', u2'⟩ := hnl q' e' hl'
          rcases Nat.lt_or_ge q q' with hlt' | hge
          · have := List.pairwise_iff_getElem.1 hpw (q - g.st.hp.length) (q' - g.st.hp.length) (lt_of_get u1) (lt_of_get u1') (by omega)
            rw [List.getElem?_eq_getElem (lt_of_get u1)] at u1
            rw [List.getElem?_eq_getElem (lt_of_get u1')] at u1'
            rw [← Option.some.inj u1, ← Option.some.inj u1']
            exact this
          · have := List.pairwise_iff_getElem.1 hpw (q' - g.st.hp.length) (q - g.st.hp.length) (lt_of_get u1') (lt_of_get u1) (by omega)
            rw [List.getElem?_eq_getElem (lt_of_get u1)] at u1
            rw [List.getElem?_eq_getElem (lt_of_get u1')] at u1'
            rw [← Option.some.inj u1, ← Option.some.inj u1']
            exact fun hh => this hh.symm
        · rename_i f hl _ hl'
          cases he
          have := (hnews e (List.mem_of_getElem? (hnl q e hl).1)).2
          have := (hm.hold q' e' he').lt
          omega
        · rename_i hl _ f' hl'
          cases he'
          have := (hnews e' (List.mem_of_getElem? (hnl q' e' hl').1)).2
          have := (hm.hold q e he).lt
          omega
        · exact hm.diff q q' e e' hne he he' ho

end Go.Ex

namespace Go.Ex
open Go.RowKit

def Run : X → List Actn → X → Prop
  | x, [], y => x = y
  | x, A :: l, y => A.Pre x ∧ Run (A.app x) l y

theorem hits_false {l m : List Nat} (h : hits l m = false) {x : Nat} (hl : x ∈ l) : x ∉ m := by
  intro hm
  have : hits l m = true := by
    unfold hits
    rw [List.any_eq_true]
    refine ⟨x, hl, ?_⟩
    rw [List.any_eq_true]
    exact ⟨x, hm, by simp⟩
  rw [h] at this
  cases this

structure Apart (a b : Actn) : Prop where
  s1 : ∀ d v, a.ws = some (d, v) → d ∉ b.rs.map (·.1)
  s2 : ∀ d v d' v', a.ws = some (d, v) → b.ws = some (d', v') → d ≠ d'
  s3 : ∀ d v, b.ws = some (d, v) → d ∉ a.rs.map (·.1)
  h1 : ∀ k ∈ a.wh.map (·.1), k ∉ b.rh.map (·.1)
  h2 : ∀ k ∈ a.wh.map (·.1), k ∉ b.wh.map (·.1)
  h3 : ∀ k ∈ b.wh.map (·.1), k ∉ a.rh.map (·.1)

theorem apart_spec {a b : Actn} (h : apart a b = true) : Apart a b := by
  unfold apart at h
  simp only [Bool.and_eq_true, Bool.not_eq_true'] at h
  obtain ⟨⟨⟨h1, h2⟩, h3⟩, h4⟩ := h
  refine ⟨fun d v hd => ?_, fun d v d' v' hd hd' => ?_, fun d v hd => ?_, fun k hk => ?_, fun k hk => ?_, fun k hk => ?_⟩
  · have := hits_false h1 (x := d) (by simp [hd])
    simp only [List.mem_append, not_or] at this
    exact this.1
  · have := hits_false h1 (x := d) (by simp [hd])
    simp only [List.mem_append, not_or] at this
    intro hh
    exact this.2 (by simp [hd', hh])
  · exact hits_false h2 (x := d) (by simp [hd])
  · have := hits_false h3 hk
    simp only [List.mem_append, not_or] at this
    exact this.1
  · have := hits_false h3 hk
    simp only [List.mem_append, not_or] at this
    exact this.2
  · exact hits_false h4 hk

theorem lookA_ne {β : Type} {l : List (Nat × β)} {k : Nat} (h : k ∉ l.map (·.1)) : lookA l k = none := by
  cases hl : lookA l k with
  | none => rfl
  | some e => exact absurd (List.mem_map.2 ⟨_, lookA_mem l k e hl, rfl⟩) h

theorem look_some_mem {β : Type} {l : List (Nat × β)} {k : Nat} {e : β} (h : lookA l k = some e) : k ∈ l.map (·.1) := List.mem_map.2 ⟨_, lookA_mem l k e h, rfl⟩

theorem app_comm {a b : Actn} (h : Apart a b) (x : X) : b.app (a.app x) = a.app (b.app x) := by
  refine X.ext' (fun t => ?_) (fun k => ?_)
  · simp only [Actn.app]
    cases ha : a.ws with
    | none => cases hb : b.ws <;> rfl
    | some p =>
      obtain ⟨d, v⟩ := p
      cases hb : b.ws with
      | none => rfl
      | some p' =>
        obtain ⟨d', v'⟩ := p'
        have := h.s2 d v d' v' ha hb
        dsimp only
        by_cases h1 : t = d
        · subst h1
          rw [if_neg this, if_pos rfl, if_pos rfl]
        · rw [if_neg h1, if_neg h1]
  · simp only [Actn.app]
    cases ha : lookA a.wh k with
    | none => cases hb : lookA b.wh k <;> rfl
    | some e =>
      rw [lookA_ne (h.h2 k (look_some_mem ha))]

theorem pre_back {a b : Actn} (h : Apart a b) {x : X} (hp : b.Pre (a.app x)) : b.Pre x := by
  refine ⟨fun p hpm => ?_, fun p hpm => ?_⟩
  · have h1 := hp.1 p hpm
    simp only [Actn.app] at h1
    cases ha : a.ws with
    | none => rw [ha] at h1; exact h1
    | some q =>
      obtain ⟨d, v⟩ := q
      rw [ha] at h1
      have := h.s1 d v ha
      dsimp only at h1
      rw [if_neg (fun hh => this (List.mem_map.2 ⟨p, hpm, hh⟩))] at h1
      exact h1
  · have h1 := hp.2 p hpm
    simp only [Actn.app] at h1
    cases ha : lookA a.wh p.1 with
    | none => rw [ha] at h1; exact h1
    | some e => exact absurd (List.mem_map.2 ⟨p, hpm, rfl⟩) (h.h1 p.1 (look_some_mem ha))

theorem pre_fore {a b : Actn} (h : Apart a b) {x : X} (hp : a.Pre x) : a.Pre (b.app x) := by
  refine ⟨fun p hpm => ?_, fun p hpm => ?_⟩
  · have h1 := hp.1 p hpm
    simp only [Actn.app]
    cases hb : b.ws with
    | none => exact h1
    | some q =>
      obtain ⟨d, v⟩ := q
      have := h.s3 d v hb
      dsimp only
      rw [if_neg (fun hh => this (List.mem_map.2 ⟨p, hpm, hh⟩))]
      exact h1
  · have h1 := hp.2 p hpm
    simp only [Actn.app]
    cases hb : lookA b.wh p.1 with
    | none => exact h1
    | some e => exact absurd (List.mem_map.2 ⟨p, hpm, rfl⟩) (h.h3 p.1 (look_some_mem hb))

theorem Run.move : ∀ (l1 : List Actn) (r : Actn) (l2 : List Actn) (x y : X), Run x (l1 ++ r :: l2) y → (∀ b ∈ l1, apart b r = true) → r.Pre x ∧ Run (r.app x) (l1 ++ l2) y
  | [], _, _, _, _, h, _ => h
  | b :: l1, r, l2, x, y, h, ha => by
    obtain ⟨h1, h2⟩ := h
    obtain ⟨h3, h4⟩ := Run.move l1 r l2 (b.app x) y h2 (fun c hc => ha c (List.mem_cons_of_mem _ hc))
    have hap := apart_spec (ha b (by simp))
    refine ⟨pre_back hap h3, pre_fore hap h1, ?_⟩
    rw [← app_comm hap]
    exact h4

section
variable {P : Program} {ops : Array Oper} {w0 : Frm} {N n : Nat} {recs0 : List Rec} {Q : Exit → Act → World → Prop}

/-- Where an action comes from. -/
def Org (P : Program) (ops : Array Oper) (w0 : Frm) (N : Nat) (recs0 : List Rec) (γ : Nat → Nat) (A : Actn) : Prop :=
  ∃ o g1 g2, ops[A.i]? = some o ∧ isSel o.op = false ∧ dstOk o.dst N = true ∧ EqOk g2.E ∧ (∀ r ∈ g1.recs, r.OkF P w0) ∧ (∃ l, recs0 = l ++ g1.recs) ∧ Way P γ ops.toList o A.i g1 g2 ∧ g2.acts = A :: g1.acts

def Agr (n : Nat) (D : Nat → Prop) (γ0 γ : Nat → Nat) : Prop := (∀ i, n ≤ i → γ i = 0) ∧ ∀ i, D i → γ i = γ0 i

def within (k : Nat × Nat × Nat × Nat) (j : Nat) : Prop := k.2.1 ≤ j ∧ j < k.2.1 + k.2.2.1

/-- The middle of a region's run: the numbers in D are given. -/
structure Stg (P : Program) (ops : Array Oper) (w0 : Frm) (N : Nat) (recs0 : List Rec) (n : Nat) (D : Nat → Prop) (γ0 : Nat → Nat) (a : Act) (w : World) (x : (Nat → Nat) → X) (R : (Nat → Nat) → List Actn) (y : (Nat → Nat) → X)
    (ks : List (Nat × Nat × Nat × Nat)) (T : Actn → Actn → Prop) : Prop where
  base : Agr n D γ0 γ0
  mod : ∀ γ, Agr n D γ0 γ → Mod w0 N (x γ) a w
  run : ∀ γ, Agr n D γ0 γ → Run (x γ) (R γ) (y γ)
  org : ∀ γ, Agr n D γ0 γ → ∀ A ∈ R γ, Org P ops w0 N recs0 γ A
  keys : ∀ γ, Agr n D γ0 γ → (R γ).map keyOf = ks
  pw : ∀ γ, Agr n D γ0 γ → (R γ).Pairwise T
  free : ∀ k ∈ ks, ∀ j, within k j → ¬ D j ∧ j < n
  disj : ks.Pairwise (fun k k' => ∀ j, within k j → ¬ within k' j)

theorem suffix_eq {α : Type} {l l1 l2 s1 s2 : List α} (h1 : l = l1 ++ s1) (h2 : l = l2 ++ s2) (h : s1.length = s2.length) : s1 = s2 := by
  have h3 : l1 ++ s1 = l2 ++ s2 := h1.symm.trans h2
  have hl : l1.length = l2.length := by
    have := congrArg List.length h3
    simp only [List.length_append] at this
    omega
  exact (List.append_inj h3 hl).2

theorem stg_step {D : Nat → Prop} {γ0 : Nat → Nat} {a : Act} {w : World} {x : (Nat → Nat) → X} {l1 l2 : (Nat → Nat) → List Actn} {r : (Nat → Nat) → Actn} {y : (Nat → Nat) → X} {ks1 ks2 : List (Nat × Nat × Nat × Nat)} {kr : Nat × Nat × Nat × Nat} {T : Actn → Actn → Prop} {K : Act → World → Prop}
    (h : Stg P ops w0 N recs0 n D γ0 a w x (fun γ => l1 γ ++ r γ :: l2 γ) y (ks1 ++ kr :: ks2) T)
    (hlen : ∀ γ, Agr n D γ0 γ → (l1 γ).length = ks1.length)
    (hap : ∀ γ, Agr n D γ0 γ → ∀ b ∈ l1 γ, apart b (r γ) = true)
    (hK : ∀ D' γ0' a' w', Stg P ops w0 N recs0 n D' γ0' a' w' (fun γ => (r γ).app (x γ)) (fun γ => l1 γ ++ l2 γ) y (ks1 ++ ks2) T → K a' w') : wpOp P ops Q kr.1 K a w := by
  have hkey : ∀ γ, Agr n D γ0 γ → (l1 γ).map keyOf = ks1 ∧ keyOf (r γ) = kr ∧ (l2 γ).map keyOf = ks2 := fun γ hγ => by
    have := h.keys γ hγ
    simp only [List.map_append, List.map_cons] at this
    obtain ⟨e1, e2⟩ := List.append_inj this (by rw [List.length_map]; exact hlen γ hγ)
    injection e2 with e2 e3
    exact ⟨e1, e2, e3⟩
  have hpre : ∀ γ, Agr n D γ0 γ → (r γ).Pre (x γ) ∧ Run ((r γ).app (x γ)) (l1 γ ++ l2 γ) (y γ) := fun γ hγ => Run.move _ _ _ _ _ (h.run γ hγ) (hap γ hγ)
  have horg : ∀ γ, Agr n D γ0 γ → Org P ops w0 N recs0 γ (r γ) := fun γ hγ => h.org γ hγ _ (by simp)
  have hfree := h.free kr (by simp)
  -- the new stage, whatever the numbers
  have next : ∀ (γ1 : Nat → Nat) (a' : Act) (w' : World), (∀ j, ¬ within kr j → γ1 j = γ0 j) →
      (∀ γ, Agr n (fun j => D j ∨ within kr j) γ1 γ → Mod w0 N ((r γ).app (x γ)) a' w') →
      Stg P ops w0 N recs0 n (fun j => D j ∨ within kr j) γ1 a' w' (fun γ => (r γ).app (x γ)) (fun γ => l1 γ ++ l2 γ) y (ks1 ++ ks2) T := by
    intro γ1 a' w' hγ1 hmod
    have hsub : ∀ γ, Agr n (fun j => D j ∨ within kr j) γ1 γ → Agr n D γ0 γ := fun γ hγ =>
      ⟨hγ.1, fun i hi => by rw [hγ.2 i (.inl hi), hγ1 i (fun hw => (hfree i hw).1 hi)]⟩
    refine ⟨⟨fun i hi => ?_, fun i _ => rfl⟩, hmod, fun γ hγ => (hpre γ (hsub γ hγ)).2, fun γ hγ A hA => ?_, fun γ hγ => ?_, fun γ hγ => ?_, fun k hk j hj => ?_, ?_⟩
    · rw [hγ1 i (fun hw => by have := (hfree i hw).2; omega)]
      exact h.base.1 i hi
    · refine h.org γ (hsub γ hγ) A ?_
      simp only [List.mem_append, List.mem_cons] at hA ⊢
      rcases hA with hA | hA
      · exact .inl hA
      · exact .inr (.inr hA)
    · obtain ⟨e1, _, e3⟩ := hkey γ (hsub γ hγ)
      rw [List.map_append, e1, e3]
    · exact (h.pw γ (hsub γ hγ)).sublist ((List.Sublist.refl (l1 γ)).append (List.sublist_cons_self _ _))
    · have hk' : k ∈ ks1 ++ kr :: ks2 := by
        simp only [List.mem_append, List.mem_cons] at hk ⊢
        rcases hk with hk | hk
        · exact .inl hk
        · exact .inr (.inr hk)
      obtain ⟨q1, q2⟩ := h.free k hk' j hj
      refine ⟨fun hor => ?_, q2⟩
      rcases hor with hor | hor
      · exact q1 hor
      · have hd := h.disj
        rw [List.pairwise_append, List.pairwise_cons] at hd
        simp only [List.mem_append] at hk
        rcases hk with hk | hk
        · exact hd.2.2 k hk kr (by simp) j hj hor
        · exact hd.2.1.1 k hk j hor hj
    · exact h.disj.sublist ((List.Sublist.refl ks1).append (List.sublist_cons_self _ _))
  obtain ⟨o, g1, g2, ho, hsel, hdst, hE, hrec, ⟨lr, hlr⟩, hway, hacts⟩ := horg γ0 h.base
  have hi : (r γ0).i = kr.1 := by rw [← (hkey γ0 h.base).2.1]; rfl
  have hal : ∀ γ, Agr n D γ0 γ → (r γ).al = (kr.2.1, kr.2.2.1) := fun γ hγ => by rw [← (hkey γ hγ).2.1]; rfl
  have hrc : ∀ γ, Agr n D γ0 γ → (r γ).rc = kr.2.2.2 := fun γ hγ => by rw [← (hkey γ hγ).2.1]; rfl
  have hii : ∀ γ, Agr n D γ0 γ → (r γ).i = kr.1 := fun γ hγ => by rw [← (hkey γ hγ).2.1]; rfl
  rw [hi] at ho
  by_cases hc : kr.2.2.2 % 2 = 1 ∨ kr.2.2.2 = 0
  · -- no call
    let γ1 : Nat → Nat := fun j => if kr.2.1 ≤ j ∧ j < kr.2.1 + kr.2.2.1 then w.heap.size + (j - kr.2.1) else γ0 j
    have hγ1 : ∀ j, ¬ within kr j → γ1 j = γ0 j := fun j hj => if_neg hj
    have hγ1' : ∀ j, within kr j → γ1 j = w.heap.size + (j - kr.2.1) := fun j hj => if_pos hj
    have key : ∀ γ, Agr n (fun j => D j ∨ within kr j) γ1 γ → ∃ v w', Real P ops o a w v w' ∧ Mod w0 N ((r γ).app (x γ)) (a.put o.dst v) w' := by
      intro γ hγ
      have hγ0 : Agr n D γ0 γ := ⟨hγ.1, fun i hi => by rw [hγ.2 i (.inl hi), hγ1 i (fun hw => (hfree i hw).1 hi)]⟩
      obtain ⟨o', g1', g2', ho', hsel', hdst', hE', hrec', _, hway', hacts'⟩ := horg γ hγ0
      rw [hii γ hγ0] at ho'
      rw [ho] at ho'
      cases ho'
      refine way_real hsel hdst' hE' hrec' hway' hacts' (by rw [hrc γ hγ0]; exact hc) (h.mod γ hγ0) (hpre γ hγ0).1 (fun q hq => ?_)
      rw [hal γ hγ0] at hq ⊢
      dsimp only at hq ⊢
      have hwi : within kr (kr.2.1 + q) := ⟨by omega, by omega⟩
      rw [hγ.2 _ (.inr hwi), hγ1' _ hwi]
      omega
    have hb1 : Agr n (fun j => D j ∨ within kr j) γ1 γ1 := ⟨fun i hi => by rw [hγ1 i (fun hw => by have := (hfree i hw).2; omega)]; exact h.base.1 i hi, fun _ _ => rfl⟩
    obtain ⟨v, w', hreal, _⟩ := key γ1 hb1
    refine hreal.wp ho (hK _ γ1 _ _ (next γ1 _ _ hγ1 (fun γ hγ => ?_)))
    obtain ⟨v2, w2, hreal2, hm2⟩ := key γ hγ
    obtain ⟨rfl, rfl⟩ := hreal.uniq hreal2
    exact hm2
  · -- a call
    have hnc : ∀ γ, Agr n D γ0 γ → ¬ ((r γ).rc % 2 = 1 ∨ (r γ).rc = 0) := fun γ hγ => by rw [hrc γ hγ]; exact hc
    rcases way_call hsel hdst hE hway hacts (hnc γ0 h.base) with ⟨d, deep, need, s, k, val, upd, news, tag, recs, σ, hr1, hr2, hr3, hr4⟩ | ⟨f, args, need, k, val, news, tag, recs, hr1, hr2, hr3, hr4⟩
    · obtain ⟨hwant, hrun, hreal, hneed, hdiff, _⟩ := hr4 _ a w (h.mod γ0 h.base) (hpre γ0 h.base).1
      have hkk : k = kr.2.2.1 ∧ g1.n = kr.2.1 := by
        have := hal γ0 h.base
        rw [hr3] at this
        injection this with e1 e2
        exact ⟨e2, e1⟩
      have hok : Rec.OkF P w0 (.eff d deep need s k val upd news tag) := hrec _ (by rw [hr1]; simp)
      have heff := hok _ w (h.mod γ0 h.base).below hneed hdiff
      have hfin : ∀ (v : Value) (w2 : World), (∃ δ : Nat → Nat, (∀ q, k ≤ q → δ q = 0) ∧ v = val σ δ ∧ Done w w2 (need σ) (upd σ δ) (news σ δ)) → K (a.put o.dst v) w2 := by
        rintro v w2 ⟨δ, hz, rfl, hdone⟩
        let γ1 : Nat → Nat := fun j => if kr.2.1 ≤ j ∧ j < kr.2.1 + kr.2.2.1 then δ (j - kr.2.1) else γ0 j
        have hγ1 : ∀ j, ¬ within kr j → γ1 j = γ0 j := fun j hj => if_neg hj
        have hγ1' : ∀ j, within kr j → γ1 j = δ (j - kr.2.1) := fun j hj => if_pos hj
        refine hK _ γ1 _ _ (next γ1 _ _ hγ1 (fun γ hγ => ?_))
        have hγ0 : Agr n D γ0 γ := ⟨hγ.1, fun i hi => by rw [hγ.2 i (.inl hi), hγ1 i (fun hw => (hfree i hw).1 hi)]⟩
        obtain ⟨o', g1', g2', ho', hsel', hdst', hE', hrec', ⟨lr', hlr'⟩, hway', hacts'⟩ := horg γ hγ0
        rw [hii γ hγ0] at ho'
        rw [ho] at ho'
        cases ho'
        rcases way_call hsel hdst' hE' hway' hacts' (hnc γ hγ0) with ⟨d', deep', need', s', k', val', upd', news', tag', recs', σ', hr1', hr2', hr3', hr4'⟩ | ⟨f', args', need', k', val', news', tag', recs', hr1', hr2', hr3', hr4'⟩
        · have hsame : g1.recs = g1'.recs := suffix_eq hlr hlr' (by
            have e1 := hr2
            have e2 := hr2'
            rw [hrc γ0 h.base] at e1
            rw [hrc γ hγ0] at e2
            omega)
          rw [hr1, hr1'] at hsame
          injection hsame with hsame _
          injection hsame with _ hdp hnd hs hk1 hv1 hu1 hn1 _
          subst hdp
          subst hk1
          subst hv1
          subst hu1
          subst hn1
          subst hnd
          subst hs
          obtain ⟨_, _, hreal', _, _, hmod⟩ := hr4' _ a w (h.mod γ hγ0) (hpre γ hγ0).1
          rw [← hreal] at hreal'
          subst hreal'
          have hn' : g1'.n = kr.2.1 := by
            have := hal γ hγ0
            rw [hr3'] at this
            injection this with e1 e2
          refine hmod δ w2 (fun q => ?_) hdone
          split
          · rename_i hq
            have hwi : within kr (kr.2.1 + q) := ⟨by omega, by omega⟩
            rw [hn', hγ.2 _ (.inr hwi), hγ1' _ hwi]
            congr 1
            omega
          · exact (hz q (by omega)).symm
        · have hsame : g1.recs = g1'.recs := suffix_eq hlr hlr' (by
            have e1 := hr2
            have e2 := hr2'
            rw [hrc γ0 h.base] at e1
            rw [hrc γ hγ0] at e2
            omega)
          rw [hr1, hr1'] at hsame
          injection hsame with hsame _
          cases hsame
      unfold wpOp
      rw [ho]
      simp only [hwant, if_true]
      left
      unfold Oper.wp
      rcases heff with ⟨v, w2, hr, hv⟩ | ⟨w2, hr, hv⟩ | ⟨f, args, hr, hc⟩
      · rw [hrun, hr]
        exact hfin v w2 hv
      · rw [hrun, hr]
        exact hfin undef w2 hv
      · rw [hrun, hr]
        show Calls P f args w _
        refine hc.mono ?_
        rintro e w2 ⟨v, rfl, hv⟩
        exact hfin v w2 hv
    obtain ⟨hwant, hrun, hneed, _⟩ := hr4 _ a w (h.mod γ0 h.base) (hpre γ0 h.base).1
    have hkk : k = kr.2.2.1 ∧ g1.n = kr.2.1 := by
      have := hal γ0 h.base
      rw [hr3] at this
      injection this with e1 e2
      exact ⟨e2, e1⟩
    have hok : Rec.OkF P w0 (.call f args need k val news tag) := hrec _ (by rw [hr1]; simp)
    have hcall := hok _ w (h.mod γ0 h.base).below hneed
    unfold wpOp
    rw [ho]
    simp only [hwant, if_true]
    left
    unfold Oper.wp
    rw [hrun]
    show Calls P f (args (addr g1.st.hp)).toArray w _
    refine hcall.mono ?_
    rintro e w2 ⟨δ, hz, rfl, hb, hnews, hpw⟩
    show K (a.put o.dst (val δ)) w2
    let γ1 : Nat → Nat := fun j => if kr.2.1 ≤ j ∧ j < kr.2.1 + kr.2.2.1 then δ (j - kr.2.1) else γ0 j
    have hγ1 : ∀ j, ¬ within kr j → γ1 j = γ0 j := fun j hj => if_neg hj
    have hγ1' : ∀ j, within kr j → γ1 j = δ (j - kr.2.1) := fun j hj => if_pos hj
    refine hK _ γ1 _ _ (next γ1 _ _ hγ1 (fun γ hγ => ?_))
    have hγ0 : Agr n D γ0 γ := ⟨hγ.1, fun i hi => by rw [hγ.2 i (.inl hi), hγ1 i (fun hw => (hfree i hw).1 hi)]⟩
    obtain ⟨o', g1', g2', ho', hsel', hdst', hE', hrec', ⟨lr', hlr'⟩, hway', hacts'⟩ := horg γ hγ0
    rw [hii γ hγ0] at ho'
    rw [ho] at ho'
    cases ho'
    obtain ⟨f', args', need', k', val', news', tag', recs', hr1', hr2', hr3', hr4'⟩ := (way_call hsel hdst' hE' hway' hacts' (hnc γ hγ0)).resolve_left (by
      rintro ⟨d', deep', need', s', k', val', upd', news', tag', recs', σ', hr1', hr2', _⟩
      have hsame : g1.recs = g1'.recs := suffix_eq hlr hlr' (by
        have e1 := hr2
        have e2 := hr2'
        rw [hrc γ0 h.base] at e1
        rw [hrc γ hγ0] at e2
        omega)
      rw [hr1, hr1'] at hsame
      injection hsame with hsame _
      cases hsame)
    have hsame : g1.recs = g1'.recs := suffix_eq hlr hlr' (by
      have e1 := hr2
      have e2 := hr2'
      rw [hrc γ0 h.base] at e1
      rw [hrc γ hγ0] at e2
      omega)
    rw [hr1, hr1'] at hsame
    injection hsame with hsame _
    injection hsame with _ _ _ hk1 hv1 hn1 _
    subst hk1
    subst hv1
    subst hn1
    obtain ⟨_, _, _, hmod⟩ := hr4' _ a w (h.mod γ hγ0) (hpre γ hγ0).1
    have hn' : g1'.n = kr.2.1 := by
      have := hal γ hγ0
      rw [hr3'] at this
      injection this with e1 e2
    refine hmod δ w2 (fun q => ?_) hb hnews hpw
    split
    · rename_i hq
      have hwi : within kr (kr.2.1 + q) := ⟨by omega, by omega⟩
      rw [hn', hγ.2 _ (.inr hwi), hγ1' _ hwi]
      congr 1
      omega
    · exact (hz q (by omega)).symm

/-- The operations in the text's order. -/
theorem stg_ops {y : (Nat → Nat) → X} {T : Actn → Actn → Prop} (hQ : ∀ γ a w, (∀ i, n ≤ i → γ i = 0) → Mod w0 N (y γ) a w → Q .normal a w) :
    ∀ (ks : List (Nat × Nat × Nat × Nat)) (D : Nat → Prop) (γ0 : Nat → Nat) (a : Act) (w : World) (x : (Nat → Nat) → X) (R : (Nat → Nat) → List Actn),
      Stg P ops w0 N recs0 n D γ0 a w x R y ks T → wpOps P ops Q (ks.map (·.1)) a w
  | [], D, γ0, a, w, x, R, h => by
    have h1 := h.keys γ0 h.base
    have h2 : R γ0 = [] := by simpa using h1
    have h3 := h.run γ0 h.base
    rw [h2] at h3
    have h4 : x γ0 = y γ0 := h3
    exact hQ γ0 a w h.base.1 (h4 ▸ h.mod γ0 h.base)
  | kr :: ks, D, γ0, a, w, x, R, h => by
    rw [List.map_cons, wpOps_cons]
    have hne : ∀ γ, Agr n D γ0 γ → R γ = ((R γ).head?.getD ⟨0, [], none, [], [], (0, 0), 0⟩) :: (R γ).tail := fun γ hγ => by
      have := h.keys γ hγ
      cases hR : R γ with
      | nil => rw [hR] at this; cases this
      | cons A l => rfl
    have h' : Stg P ops w0 N recs0 n D γ0 a w x (fun γ => [] ++ ((R γ).head?.getD ⟨0, [], none, [], [], (0, 0), 0⟩) :: (R γ).tail) y ([] ++ kr :: ks) T :=
      ⟨h.base, h.mod, fun γ hγ => by rw [List.nil_append, ← hne γ hγ]; exact h.run γ hγ, fun γ hγ => by rw [List.nil_append, ← hne γ hγ]; exact h.org γ hγ, fun γ hγ => by rw [List.nil_append, ← hne γ hγ]; exact h.keys γ hγ,
        fun γ hγ => by rw [List.nil_append, ← hne γ hγ]; exact h.pw γ hγ, h.free, h.disj⟩
    exact stg_step h' (fun γ _ => rfl) (fun γ _ b hb => by cases hb) (fun D' γ0' a' w' h2 => stg_ops hQ ks D' γ0' a' w' _ _ h2)

/-- What is asked of two actions of which the first stands ahead in the text. -/
def Ordered (ops : Array Oper) (b r : Actn) : Prop :=
  b.i < r.i ∧ (apart b r = true ∨ ∃ o, ops[r.i]? = some o ∧ ∃ e ∈ o.after, Region.binds .any e = true ∧ e.on = b.i)

theorem ready_spec {listed : Array Bool} {i : Nat} (h : i ∈ Region.ready .any ops listed) : ∃ o, ops[i]? = some o ∧ listed.getD i true = false ∧ ∀ e ∈ o.after, Region.binds .any e = true → listed.getD e.on false = true := by
  unfold Region.ready at h
  rw [List.mem_filter] at h
  obtain ⟨h1, h2⟩ := h
  simp only [Bool.and_eq_true, Bool.not_eq_true'] at h2
  obtain ⟨h2, h3⟩ := h2
  cases ho : ops[i]? with
  | none => rw [ho] at h3; simp at h3
  | some o =>
    refine ⟨o, rfl, h2, fun e he hb => ?_⟩
    rw [ho] at h3
    simp only [Option.map_some, Option.getD_some, Array.all_eq_true_iff_forall_mem] at h3
    have := h3 e he
    simpa [hb] using this

theorem ready_mk {listed : Array Bool} {i : Nat} {o : Oper} (ho : ops[i]? = some o) (h1 : listed.getD i true = false) (h2 : ∀ e ∈ o.after, Region.binds .any e = true → listed.getD e.on false = true) : i ∈ Region.ready .any ops listed := by
  unfold Region.ready
  rw [List.mem_filter]
  have hi : i < ops.size := by
    rcases Nat.lt_or_ge i ops.size with hlt | hge
    · exact hlt
    · rw [Array.getElem?_eq_none hge] at ho; cases ho
  refine ⟨by simpa using hi, ?_⟩
  rw [ho, h1]
  simp only [Option.map_some, Option.getD_some, Bool.not_false, Bool.true_and, Array.all_eq_true_iff_forall_mem]
  intro e he
  cases hb : Region.binds .any e with
  | false => rfl
  | true => simpa using h2 e he hb

/-- The operations in whatever order the edges let. -/
theorem stg_any {y : (Nat → Nat) → X} (hed : ∀ (i : Nat) (o : Oper), ops[i]? = some o → ∀ e ∈ o.after, Region.binds .any e = true → e.on < i) (hQ : ∀ γ a w, (∀ i, n ≤ i → γ i = 0) → Mod w0 N (y γ) a w → Q .normal a w) :
    ∀ (fuel : Nat) (ks : List (Nat × Nat × Nat × Nat)) (D : Nat → Prop) (γ0 : Nat → Nat) (a : Act) (w : World) (x : (Nat → Nat) → X) (R : (Nat → Nat) → List Actn) (listed : Array Bool),
      ks.length = fuel → listed.size = ops.size → (∀ j, j < ops.size → (listed.getD j true = false ↔ j ∈ ks.map (·.1))) → (∀ j ∈ ks.map (·.1), j < ops.size) → (ks.map (·.1)).Pairwise (· < ·) →
      Stg P ops w0 N recs0 n D γ0 a w x R y ks (Ordered ops) → wpAny P .any ops Q fuel listed a w := by
  intro fuel
  induction fuel with
  | zero =>
    intro ks D γ0 a w x R listed hf hls hl hlt hso h
    have hk : ks = [] := List.eq_nil_of_length_eq_zero hf
    subst hk
    refine ⟨?_, ?_⟩
    · apply List.eq_nil_iff_forall_not_mem.2
      intro i hi
      obtain ⟨o, ho, h1, _⟩ := ready_spec hi
      have hi' : i < ops.size := by
        rcases Nat.lt_or_ge i ops.size with hlt | hge
        · exact hlt
        · rw [Array.getElem?_eq_none hge] at ho; cases ho
      have := (hl i hi').1 h1
      simp at this
    · exact stg_ops hQ [] D γ0 a w x R h
  | succ fuel ih =>
    intro ks D γ0 a w x R listed hf hls hl hlt hso h
    have getD_eq : ∀ j, j < ops.size → listed.getD j true = listed.getD j false := fun j hj => by
      simp [Array.getD_eq_getD_getElem?, Array.getElem?_eq_getElem (show j < listed.size by omega)]
    refine ⟨fun hnil => ?_, fun i hi => ?_⟩
    · exfalso
      cases ks with
      | nil => cases hf
      | cons k0 ks =>
        have hk0 : k0.1 < ops.size := hlt k0.1 (by simp)
        have hmem : k0.1 ∈ Region.ready .any ops listed := by
          refine ready_mk (Array.getElem?_eq_getElem hk0) ((hl k0.1 hk0).2 (by simp)) (fun e he hbe => ?_)
          have hlt' := hed k0.1 _ (Array.getElem?_eq_getElem hk0) e he hbe
          rw [← getD_eq e.on (by omega)]
          cases hb : listed.getD e.on true with
          | true => rfl
          | false =>
            have := (hl e.on (by omega)).1 hb
            rw [List.map_cons, List.mem_cons] at this
            rw [List.map_cons, List.pairwise_cons] at hso
            rcases this with this | this
            · omega
            · have := hso.1 _ this
              omega
        rw [hnil] at hmem
        cases hmem
    · obtain ⟨o, ho, hl1, hl2⟩ := ready_spec hi
      have hi' : i < ops.size := by
        rcases Nat.lt_or_ge i ops.size with hlt | hge
        · exact hlt
        · rw [Array.getElem?_eq_none hge] at ho; cases ho
      have hik := (hl i hi').1 hl1
      rw [List.mem_map] at hik
      obtain ⟨kr, hkr, hkri⟩ := hik
      obtain ⟨ks1, ks2, rfl⟩ := List.append_of_mem hkr
      have hspl : ∀ γ, Agr n D γ0 γ → R γ = (R γ).take ks1.length ++ ((R γ)[ks1.length]?.getD ⟨0, [], none, [], [], (0, 0), 0⟩) :: (R γ).drop (ks1.length + 1) := fun γ hγ => by
        have hll : ks1.length < (R γ).length := by
          have := congrArg List.length (h.keys γ hγ)
          simp only [List.length_map, List.length_append, List.length_cons] at this
          omega
        rw [List.getElem?_eq_getElem hll, Option.getD_some, ← List.drop_eq_getElem_cons hll, List.take_append_drop]
      have h' : Stg P ops w0 N recs0 n D γ0 a w x (fun γ => (R γ).take ks1.length ++ ((R γ)[ks1.length]?.getD ⟨0, [], none, [], [], (0, 0), 0⟩) :: (R γ).drop (ks1.length + 1)) y (ks1 ++ kr :: ks2) (Ordered ops) :=
        ⟨h.base, h.mod, fun γ hγ => by rw [← hspl γ hγ]; exact h.run γ hγ, fun γ hγ => by rw [← hspl γ hγ]; exact h.org γ hγ, fun γ hγ => by rw [← hspl γ hγ]; exact h.keys γ hγ,
          fun γ hγ => by rw [← hspl γ hγ]; exact h.pw γ hγ, h.free, h.disj⟩
      have hln : ∀ γ, Agr n D γ0 γ → ((R γ).take ks1.length).length = ks1.length := fun γ hγ => by
        have := congrArg List.length (h.keys γ hγ)
        simp only [List.length_map, List.length_append, List.length_cons] at this
        rw [List.length_take]
        omega
      rw [← hkri]
      refine stg_step h' hln (fun γ hγ b hb => ?_) (fun D' γ0' a' w' h2 => ?_)
      · have hp := h'.pw γ hγ
        rw [List.pairwise_append] at hp
        obtain ⟨hbi, hor⟩ := hp.2.2 b hb _ List.mem_cons_self
        rcases hor with hor | ⟨o', ho', e, he, hb1, hb2⟩
        · exact hor
        · exfalso
          have hri : ((R γ)[ks1.length]?.getD ⟨0, [], none, [], [], (0, 0), 0⟩).i = kr.1 := by
            have := h'.keys γ hγ
            simp only [List.map_append, List.map_cons] at this
            obtain ⟨_, e2⟩ := List.append_inj this (by rw [List.length_map]; exact hln γ hγ)
            injection e2 with e2 _
            rw [← e2]; rfl
          have hbk : b.i ∈ (ks1 ++ kr :: ks2).map (·.1) := by
            rw [← h.keys γ hγ, List.map_map]
            refine List.mem_map.2 ⟨b, ?_, rfl⟩
            exact List.mem_of_mem_take hb
          rw [hri, hkri, ho] at ho'
          cases ho'
          have h5 := hl2 e he hb1
          rw [hb2] at h5
          have hbl : b.i < ops.size := hlt _ hbk
          have h6 := (hl b.i hbl).2 hbk
          rw [getD_eq _ hbl, h5] at h6
          cases h6
      · refine ih (ks1 ++ ks2) D' γ0' a' w' _ _ (listed.setIfInBounds kr.1 true) ?_ (by simpa using hls) (fun j hj => ?_) (fun j hj => ?_) ?_ h2
        · simp only [List.length_append, List.length_cons] at hf ⊢
          omega
        · have hnd : kr.1 ∉ (ks1 ++ ks2).map (·.1) := by
            rw [List.map_append, List.map_cons, List.pairwise_append, List.pairwise_cons] at hso
            rw [List.map_append, List.mem_append]
            rintro (hm | hm)
            · have := hso.2.2 _ hm kr.1 (by simp); omega
            · have := hso.2.1.1 _ hm; omega
          rw [Array.getD_eq_getD_getElem?, Array.getElem?_setIfInBounds]
          by_cases hjk : kr.1 = j
          · subst hjk
            rw [if_pos rfl, if_pos (by omega)]
            simp only [Option.getD_some]
            exact ⟨fun hh => (by cases hh), fun hh => absurd hh hnd⟩
          · rw [if_neg hjk, ← Array.getD_eq_getD_getElem?, hl j hj]
            simp only [List.map_append, List.map_cons, List.mem_append, List.mem_cons]
            constructor
            · rintro (hh | hh | hh)
              · exact .inl hh
              · exact absurd hh.symm hjk
              · exact .inr hh
            · rintro (hh | hh)
              · exact .inl hh
              · exact .inr (.inr hh)
        · refine hlt j ?_
          simp only [List.map_append, List.map_cons, List.mem_append, List.mem_cons] at hj ⊢
          rcases hj with hj | hj
          · exact .inl hj
          · exact .inr (.inr hj)
        · refine hso.sublist ?_
          simp only [List.map_append, List.map_cons]
          exact (List.Sublist.refl _).append (List.sublist_cons_self _ _)
end

end Go.Ex

namespace Go.Ex
open Go.RowKit

section
variable {P : Program} {γ : Nat → Nat} {ops : Array Oper} {w0 : Frm} {N : Nat} {recs0 : List Rec}

theorem way_ext {o : Oper} {i : Nat} {g g' : G} (h : Way P γ ops.toList o i g g') : (∃ l, g'.E = l ++ g.E) ∧ (∃ l, g.recs = l ++ g'.recs) := by
  cases h with
  | off ds rs hw hr h => subst h; exact ⟨⟨[], rfl⟩, ⟨[], rfl⟩⟩
  | on ds rs hw hr nx v tag m ha hn rh wh h1 h2 h => subst h; exact ⟨(arun_ext _ _ _ _ ha).E, ⟨[], rfl⟩⟩
  | call ds rs hw hr f f' args m args' need k val news tag recs ha hwr hrd hrec h =>
    subst h
    obtain ⟨l, hl⟩ := (arun_ext _ _ _ _ ha).E
    exact ⟨⟨(It.nat f, It.nat f') :: (It.vals args.toList, It.vals (args' (addr g.st.hp))) :: (eqs (need (addr g.st.hp)) g.st.hp ++ l), by simp [finish, hl]⟩, ⟨[_], hrec⟩⟩
  | eff ds rs hw hr d deep need s k val upd news tag recs hrec δ hδ ls hls σ hσ hu h => subst h; exact ⟨⟨(It.sem (execOp (ev g.st.fr) o), It.sem (s σ)) :: (ls.map (fun p => (It.nat p.2.2.g, It.nat (opA (slot g.st.fr) (tmpsOf o) 0 p.1))) ++ eqs (need σ) g.st.hp), by simp [finish]⟩, ⟨[_], hrec⟩⟩
  | fact ds rs hw hr d need s v recs hrec h => subst h; exact ⟨⟨(It.sem (execOp (ev g.st.fr) o), It.sem (s (addr g.st.hp))) :: eqs (need (addr g.st.hp)) g.st.hp, by simp [finish]⟩, ⟨[_], hrec⟩⟩

theorem stepsR_ext : ∀ (rest : List Oper) (i : Nat) (g g' : G), stepsR P γ ops.toList rest i g = some g' → (∃ l, g'.E = l ++ g.E) ∧ (∃ l, g.recs = l ++ g'.recs)
  | [], _, g, g', h => by simp only [stepsR, Option.some.injEq] at h; subst h; exact ⟨⟨[], rfl⟩, ⟨[], rfl⟩⟩
  | o :: rest, i, g, g', h => by
    simp only [stepsR] at h
    split at h
    · cases h
    · rename_i g1 h1
      obtain ⟨⟨l1, e1⟩, ⟨k1, f1⟩⟩ := way_ext (step1_way h1).2.2
      obtain ⟨⟨l2, e2⟩, ⟨k2, f2⟩⟩ := stepsR_ext rest (i + 1) g1 g' h
      exact ⟨⟨l2 ++ l1, by rw [e2, e1, List.append_assoc]⟩, ⟨k1 ++ k2, by rw [f1, f2, List.append_assoc]⟩⟩

theorem stepsR_lex : ∀ (rest : List Oper) (i : Nat) (g g' : G), (∀ j, j < rest.length → ops[i + j]? = rest[j]?) → stepsR P γ ops.toList rest i g = some g' → EqOk g'.E → (∀ r ∈ g.recs, r.OkF P w0) → (∃ l, recs0 = l ++ g.recs) → g.st.fr.length = N →
    ∃ l : List Actn, g'.acts = l.reverse ++ g.acts ∧ Run (toX g.st) l (toX g'.st) ∧ l.map (·.i) = List.range' i rest.length ∧ (∀ A ∈ l, Org P ops w0 N recs0 γ A) ∧ g.n ≤ g'.n ∧ (∀ A ∈ l, g.n ≤ A.al.1 ∧ A.al.1 + A.al.2 ≤ g'.n) ∧
      l.Pairwise (fun A B => A.al.1 + A.al.2 ≤ B.al.1) ∧ g'.st.fr.length = N
  | [], i, g, g', _, h, _, _, _, hN => by
    simp only [stepsR, Option.some.injEq] at h
    subst h
    exact ⟨[], rfl, rfl, rfl, fun A hA => (by cases hA), Nat.le_refl _, fun A hA => (by cases hA), List.Pairwise.nil, hN⟩
  | o :: rest, i, g, g', hops, h, hE, hrec, hsuf, hN => by
    simp only [stepsR] at h
    split at h
    · cases h
    · rename_i g1 h1
      obtain ⟨hsel, hdst, hway⟩ := step1_way h1
      obtain ⟨⟨l1, e1⟩, _⟩ := stepsR_ext rest (i + 1) g1 g' h
      have hE1 : EqOk g1.E := EqOk.app (l := l1) (by rw [← e1]; exact hE)
      obtain ⟨A, hL⟩ := way_lex hdst hE1 hway
      obtain ⟨lr, hlr⟩ := hL.recs
      obtain ⟨lp, hlp⟩ := hsuf
      obtain ⟨l, k1, k2, k3, k4, k5, k6, k7, k8⟩ := stepsR_lex rest (i + 1) g1 g' (fun j hj => by
        have := hops (j + 1) (by simp only [List.length_cons]; omega)
        rw [show i + 1 + j = i + (j + 1) by omega, this, List.getElem?_cons_succ]) h hE (fun r hr => hrec r (by rw [hlr]; exact List.mem_append_right _ hr)) ⟨lp ++ lr, by rw [hlp, hlr, List.append_assoc]⟩ (by rw [hL.len]; exact hN)
      have hi0 : ops[i]? = some o := by
        have := hops 0 (by simp)
        simpa using this
      refine ⟨A :: l, ?_, ⟨hL.pre, by rw [hL.app]; exact k2⟩, ?_, ?_, Nat.le_trans hL.n k5, ?_, ?_, k8⟩
      · rw [k1, hL.acts]; simp
      · simp only [List.map_cons, List.length_cons, List.range'_succ, k3, hL.i]
      · intro B hB
        rcases List.mem_cons.1 hB with rfl | hB
        · exact ⟨o, g, g1, by rw [hL.i]; exact hi0, hsel, hN ▸ hdst, hE1, hrec, ⟨lp, hlp⟩, by rw [hL.i]; exact hway, hL.acts⟩
        · exact k4 B hB
      · intro B hB
        rcases List.mem_cons.1 hB with rfl | hB
        · rw [hL.al]; exact ⟨Nat.le_refl _, by dsimp only; have := hL.n; omega⟩
        · have := k6 B hB
          have := hL.n
          omega
      · rw [List.pairwise_cons]
        refine ⟨fun B hB => ?_, k7⟩
        have := (k6 B hB).1
        rw [hL.al]
        dsimp only
        have := hL.n
        omega

theorem freeB_pw : ∀ (l : List Actn), freeB ops.toList l = true → l.Pairwise (fun r b => apart b r = true ∨ ∃ o, ops[r.i]? = some o ∧ ∃ e ∈ o.after, Region.binds .any e = true ∧ e.on = b.i)
  | [], _ => List.Pairwise.nil
  | r :: l, h => by
    simp only [freeB, Bool.and_eq_true] at h
    rw [List.pairwise_cons]
    refine ⟨fun b hb => ?_, freeB_pw l h.2⟩
    have h1 := h.1
    rw [List.all_eq_true] at h1
    have h2 := h1 b hb
    simp only [Bool.or_eq_true] at h2
    rcases h2 with h2 | h2
    · exact .inl h2
    · right
      rw [Array.getElem?_toList] at h2
      split at h2
      · rename_i o ho
        rw [List.any_eq_true] at h2
        obtain ⟨e, he, hb⟩ := h2
        simp only [Bool.and_eq_true, beq_iff_eq] at hb
        exact ⟨o, ho, e, by simpa using he, hb.1, hb.2⟩
      · cases h2

theorem edgesOk_spec (h : edgesOk ops.toList = true) : ∀ (i : Nat) (o : Oper), ops[i]? = some o → ∀ e ∈ o.after, Region.binds .any e = true → e.on < i := by
  intro i o ho e he hb
  unfold edgesOk at h
  rw [List.all_eq_true] at h
  have hm : (o, i) ∈ ops.toList.zipIdx := by
    rw [List.mem_zipIdx_iff_getElem?]
    rw [Array.getElem?_toList]
    exact ho
  have h1 := h _ hm
  dsimp only at h1
  rw [List.all_eq_true] at h1
  have := h1 e (by simpa using he)
  simpa [hb] using this

instance : Inhabited G := ⟨⟨⟨[], [], []⟩, 0, [], [], []⟩⟩

/-- A region. -/
theorem region_wp {id : Nat} {draw : Bool} {st : St} {E : List (It × It)} {n : Nat} {ks0 : List (Nat × Nat × Nat × Nat)} {a : Act} {w : World} {Q : Exit → Act → World → Prop} (hmix : P.follows .mixedOrders = true)
    (hm : Mod w0 N (toX st) a w) (hN : st.fr.length = N) (hrec : ∀ r ∈ recs0, r.OkF P w0)
    (hlex : ∀ γ : Nat → Nat, (∀ i, n ≤ i → γ i = 0) → ∃ g, stepsR P γ ops.toList ops.toList 0 ⟨st, 0, recs0, E, []⟩ = some g ∧ EqOk g.E ∧ g.acts.map keyOf = ks0 ∧ (draw = true → freeB ops.toList g.acts = true ∧ edgesOk ops.toList = true))
    (hends : ∀ k ∈ ks0, k.2.1 + k.2.2.1 ≤ n)
    (hQ : ∀ γ g a' w', (∀ i, n ≤ i → γ i = 0) → stepsR P γ ops.toList ops.toList 0 ⟨st, 0, recs0, E, []⟩ = some g → g.st.fr.length = N → Mod w0 N (toX g.st) a' w' → Q .normal a' w') : (Code.region id ops draw).wp P Q a w := by
  let F : (Nat → Nat) → G := fun γ => (stepsR P γ ops.toList ops.toList 0 ⟨st, 0, recs0, E, []⟩).getD default
  have hF : ∀ γ : Nat → Nat, (∀ i, n ≤ i → γ i = 0) → stepsR P γ ops.toList ops.toList 0 ⟨st, 0, recs0, E, []⟩ = some (F γ) ∧ EqOk (F γ).E ∧ (F γ).acts.map keyOf = ks0 ∧ (draw = true → freeB ops.toList (F γ).acts = true ∧ edgesOk ops.toList = true) := fun γ hγ => by
    obtain ⟨g, h1, h2⟩ := hlex γ hγ
    have : F γ = g := by show (stepsR P γ ops.toList ops.toList 0 ⟨st, 0, recs0, E, []⟩).getD default = g; rw [h1]; rfl
    rw [this]
    exact ⟨h1, h2⟩
  have hX : ∀ γ : Nat → Nat, (∀ i, n ≤ i → γ i = 0) → Run (toX st) (F γ).acts.reverse (toX (F γ).st) ∧ (F γ).acts.reverse.map (·.i) = List.range' 0 ops.size ∧ (∀ A ∈ (F γ).acts.reverse, Org P ops w0 N recs0 γ A) ∧
      (F γ).acts.reverse.Pairwise (fun A B => A.al.1 + A.al.2 ≤ B.al.1) ∧ (F γ).st.fr.length = N := fun γ hγ => by
    obtain ⟨h1, h2, h3, _⟩ := hF γ hγ
    obtain ⟨l, k1, k2, k3, k4, _, _, k7, k8⟩ := stepsR_lex (w0 := w0) (N := N) (recs0 := recs0) ops.toList 0 _ _ (fun j _ => by rw [Nat.zero_add, Array.getElem?_toList]) h1 h2 hrec ⟨[], rfl⟩ hN
    have e : (F γ).acts.reverse = l := by rw [k1]; simp
    rw [e]
    exact ⟨k2, by rw [k3]; simp, k4, k7, k8⟩
  have hz : ∀ i, n ≤ i → (fun _ : Nat => 0) i = 0 := fun _ _ => rfl
  have hks : ∀ γ : Nat → Nat, (∀ i, n ≤ i → γ i = 0) → (F γ).acts.reverse.map keyOf = ks0.reverse := fun γ hγ => by
    rw [List.map_reverse, (hF γ hγ).2.2.1]
  have hki : ks0.reverse.map (·.1) = List.range' 0 ops.size := by
    rw [← hks _ hz, List.map_map]
    exact (hX _ hz).2.1
  have hdisj : ks0.reverse.Pairwise (fun k k' => ∀ j, within k j → ¬ within k' j) := by
    rw [← hks _ hz, List.pairwise_map]
    refine (hX _ hz).2.2.2.1.imp (fun {A B} hAB j h1 h2 => ?_)
    unfold within keyOf at h1 h2
    dsimp only at h1 h2
    omega
  have hfree : ∀ k ∈ ks0.reverse, ∀ j, within k j → ¬ False ∧ j < n := fun k hk j hj => by
    have := hends k (by simpa using hk)
    unfold within at hj
    exact ⟨fun h => h, by omega⟩
  have hfin : ∀ γ a w, (∀ i, n ≤ i → γ i = 0) → Mod w0 N (toX (F γ).st) a w → Q .normal a w := fun γ a' w' hγ hm' => hQ γ (F γ) a' w' hγ (hF γ hγ).1 (hX γ hγ).2.2.2.2 hm'
  have hstg : ∀ (T : Actn → Actn → Prop) (w1 : World), Mod w0 N (toX st) a w1 → (∀ γ : Nat → Nat, (∀ i, n ≤ i → γ i = 0) → (F γ).acts.reverse.Pairwise T) →
      Stg P ops w0 N recs0 n (fun _ => False) (fun _ => 0) a w1 (fun _ => toX st) (fun γ => (F γ).acts.reverse) (fun γ => toX (F γ).st) ks0.reverse T := fun T w1 hm1 hT =>
    ⟨⟨hz, fun _ h => h.elim⟩, fun _ _ => hm1, fun γ hγ => (hX γ hγ.1).1, fun γ hγ => (hX γ hγ.1).2.2.1, fun γ hγ => hks γ hγ.1, fun γ hγ => hT γ hγ.1, hfree, hdisj⟩
  cases draw with
  | false =>
    refine wp_region ?_
    have h1 := stg_ops (Q := Q) (T := fun _ _ => True) hfin ks0.reverse (fun _ => False) (fun _ => 0) a w _ _ (hstg _ w hm (fun γ _ => List.pairwise_of_forall (fun _ _ => trivial)))
    rw [hki] at h1
    rw [List.range_eq_range']
    exact h1
  | true =>
    refine wp_region_any hmix ?_
    have hm1 : Mod w0 N (toX st) a { w with drawn := w.drawn + 1 } :=
      ⟨hm.defers, hm.size, hm.slot, ⟨hm.below.os, hm.below.tape, hm.below.output, hm.below.size, hm.below.block⟩, hm.hold, hm.own, hm.diff⟩
    refine stg_any (n := n) (N := N) (w0 := w0) (recs0 := recs0) (edgesOk_spec ((hF _ hz).2.2.2 rfl).2) hfin ops.size ks0.reverse (fun _ => False) (fun _ => 0) a _ (fun _ => toX st) (fun γ => (F γ).acts.reverse) _ ?_ (by simp) (fun j hj => ?_) (fun j hj => ?_) ?_ (hstg _ _ hm1 (fun γ hγ => ?_))
    · have := congrArg List.length hki
      simpa using this
    · rw [hki]
      simp [Array.getD_eq_getD_getElem?, hj]
    · rw [hki] at hj
      simp at hj
      omega
    · rw [hki]
      exact List.pairwise_lt_range'
    · have h1 := freeB_pw _ ((hF γ hγ).2.2.2 rfl).1
      have h2 := (hX γ hγ).2.1
      have h3 : ((F γ).acts.reverse.map (·.i)).Pairwise (· < ·) := by rw [h2]; exact List.pairwise_lt_range'
      rw [List.pairwise_map] at h3
      rw [← List.pairwise_reverse] at h1
      exact h3.imp₂ (fun _ _ x y => ⟨x, y⟩) h1
end

section
variable {P : Program} {w0 : Frm} {N : Nat}

theorem region_ext {ops : Array Oper} {draw : Bool} {s s' : S} (h : region P ops.toList draw s = some s') : (∃ l, s'.E = l ++ s.E) ∧ (∃ l, s.recs = l ++ s'.recs) := by
  unfold region at h
  split at h
  · cases h
  · split at h
    · cases h
    · dsimp only at h
      split at h
      · cases h
      · rename_i g hg
        split at h
        · cases h
          exact stepsR_ext _ _ _ _ hg
        · cases h

theorem iter_ext {f : S → Option (Out × S)} (hf : ∀ s o s', f s = some (o, s') → (∃ l, s'.E = l ++ s.E) ∧ (∃ l, s.recs = l ++ s'.recs)) : ∀ (n : Nat) (s : S) (o : Out) (s' : S), iter f n s = some (o, s') → (∃ l, s'.E = l ++ s.E) ∧ (∃ l, s.recs = l ++ s'.recs)
  | 0, _, _, _, h => by cases h
  | n + 1, s, o, s', h => by
    simp only [iter] at h
    split at h
    · rename_i s1 h1
      obtain ⟨⟨l1, e1⟩, ⟨k1, f1⟩⟩ := hf _ _ _ h1
      obtain ⟨⟨l2, e2⟩, ⟨k2, f2⟩⟩ := iter_ext hf n _ _ _ h
      exact ⟨⟨l2 ++ l1, by rw [e2, e1, List.append_assoc]⟩, ⟨k1 ++ k2, by rw [f1, f2, List.append_assoc]⟩⟩
    · exact hf _ _ _ h

theorem exec_ext : ∀ (c : Code) (s : S) (o : Out) (s' : S), exec P c s = some (o, s') → (∃ l, s'.E = l ++ s.E) ∧ (∃ l, s.recs = l ++ s'.recs) := by
  intro c
  induction c with
  | skip => intro s o s' h; simp only [exec, Option.some.injEq, Prod.mk.injEq] at h; rw [← h.2]; exact ⟨⟨[], rfl⟩, ⟨[], rfl⟩⟩
  | region id ops draw =>
    intro s o s' h
    simp only [exec] at h
    split at h
    · rename_i s1 h1
      simp only [Option.some.injEq, Prod.mk.injEq] at h
      rw [← h.2]
      exact region_ext h1
    · cases h
  | seq x y ihx ihy =>
    intro s o s' h
    simp only [exec] at h
    split at h
    · rename_i s1 h1
      obtain ⟨⟨l1, e1⟩, ⟨k1, f1⟩⟩ := ihx _ _ _ h1
      obtain ⟨⟨l2, e2⟩, ⟨k2, f2⟩⟩ := ihy _ _ _ h
      exact ⟨⟨l2 ++ l1, by rw [e2, e1, List.append_assoc]⟩, ⟨k1 ++ k2, by rw [f1, f2, List.append_assoc]⟩⟩
    · exact ihx _ _ _ h
  | cond c x y ihx ihy =>
    intro s o s' h
    simp only [exec] at h
    split at h
    · exact ihx _ _ _ h
    · exact ihy _ _ _ h
    · cases h
  | block id c ih =>
    intro s o s' h
    simp only [exec] at h
    split at h
    · rename_i i s1 h1
      split at h
      · simp only [Option.some.injEq, Prod.mk.injEq] at h; rw [← h.2]; exact ih _ _ _ h1
      · simp only [Option.some.injEq, Prod.mk.injEq] at h; rw [← h.2]; exact ih _ _ _ h1
    · exact ih _ _ _ h
  | loop c ih =>
    intro s o s' h
    simp only [exec] at h
    split at h
    · rename_i c' k pre post out recs hr
      split at h
      · cases h
      · simp only [Option.some.injEq, Prod.mk.injEq] at h
        rw [← h.2]
        exact ⟨⟨(It.code c, It.code c') :: (It.nat (post (s.st.hp.map (·.g)) (fun q => (s.gs.take k).getD q 0)).fr.length, It.nat s.st.fr.length) :: chk (pre (s.st.hp.map (·.g))) s.st, by simp⟩, ⟨[_], hr⟩⟩
    · exact iter_ext ih _ _ _ _ h
  | exit id => intro s o s' h; simp only [exec, Option.some.injEq, Prod.mk.injEq] at h; rw [← h.2]; exact ⟨⟨[], rfl⟩, ⟨[], rfl⟩⟩
  | ret => intro s o s' h; simp only [exec, Option.some.injEq, Prod.mk.injEq] at h; rw [← h.2]; exact ⟨⟨[], rfl⟩, ⟨[], rfl⟩⟩
  | _ => intros; rename_i h; simp [exec] at h

/-- What a run of a piece of code must be, whatever the numbers. -/
def Good (f : S → Option (Out × S)) (st : St) (recs : List Rec) (E : List (It × It)) (K : Nat) : Prop :=
  ∀ gs : List Nat, gs.length = K → ∃ o s', f ⟨st, gs, recs, E⟩ = some (o, s') ∧ EqOk s'.E

/-- What a run comes to, once its own numbers are given. -/
def Ends (f : S → Option (Out × S)) (st : St) (recs : List Rec) (E : List (It × It)) (K : Nat) (δ : List Nat) (o : Out) (st' : St) (recs' : List Rec) (E' : List (It × It)) : Prop :=
  δ.length ≤ K ∧ ∀ gs : List Nat, δ.length + gs.length = K → f ⟨st, δ ++ gs, recs, E⟩ = some (o, ⟨st', gs, recs', E'⟩)

/-- The truth of a symbolic run. -/
def True_ (P : Program) (w0 : Frm) (N : Nat) (f : S → Option (Out × S)) (c : Act → World → (Exit → Act → World → Prop) → Prop) : Prop :=
  ∀ (st : St) (recs : List Rec) (E : List (It × It)) (K : Nat) (a : Act) (w : World) (Q : Exit → Act → World → Prop), Mod w0 N (toX st) a w → st.fr.length = N → (∀ r ∈ recs, r.OkF P w0) → Good f st recs E K →
    (∀ δ o st' recs' E' a' w', Ends f st recs E K δ o st' recs' E' → st'.fr.length = N → Mod w0 N (toX st') a' w' → Q o.exit_ a' w') → c a w Q

theorem good_some {f : S → Option (Out × S)} {st : St} {recs : List Rec} {E : List (It × It)} {K : Nat} (h : Good f st recs E K) : ∃ gs o s', gs.length = K ∧ f ⟨st, gs, recs, E⟩ = some (o, s') ∧ EqOk s'.E := by
  obtain ⟨o, s', h1, h2⟩ := h (List.replicate K 0) (by simp)
  exact ⟨_, o, s', by simp, h1, h2⟩

theorem chkSlots_spec (fr : List (Option Value)) : ∀ (l : List (Option Value)) (t : Nat) (E : List (It × It)), EqOk (chkSlots fr t l ++ E) → ∀ i v, l[i]? = some (some v) → slot fr (t + i) = some v
  | [], _, _, _, i, v, h => by simp at h
  | none :: l, t, E, hE, i, v, h => by
    cases i with
    | zero => simp at h
    | succ i =>
      have := chkSlots_spec fr l (t + 1) E hE i v (by simpa using h)
      rw [show t + (i + 1) = t + 1 + i by omega]
      exact this
  | some u :: l, t, E, hE, i, v, h => by
    have hE' : EqOk ((It.oval (slot fr t), It.oval (some u)) :: (chkSlots fr (t + 1) l ++ E)) := hE
    cases i with
    | zero =>
      simp only [List.getElem?_cons_zero, Option.some.injEq] at h
      subst h
      have := hE'.cons.1
      injection this
    | succ i =>
      have := chkSlots_spec fr l (t + 1) E hE'.cons.2 i v (by simpa using h)
      rw [show t + (i + 1) = t + 1 + i by omega]
      exact this

theorem number_mem : ∀ (l : List Ent) (n k : Nat) (e : Ent), l[k]? = some e → (n + k, e) ∈ number n l
  | [], _, _, _, h => by simp at h
  | f :: l, n, k, e, h => by
    cases k with
    | zero => simp only [List.getElem?_cons_zero, Option.some.injEq] at h; subst h; simp [number]
    | succ k =>
      have := number_mem l (n + 1) k e (by simpa using h)
      simp only [number, List.mem_cons]
      right
      rw [show n + (k + 1) = n + 1 + k by omega]
      exact this

/-- A state that says less. -/
theorem Mod.of_chk {want st : St} {a : Act} {w : World} (hm : Mod w0 N (toX st) a w) (h : EqOk (chk want st)) : want.fr.length = st.fr.length ∧ Mod w0 N (toX want) a w := by
  have h1 := h.cons
  have hs := chkSlots_spec st.fr want.fr 0 _ h1.2
  have he := eqs_ok (number 0 want.hp) st.hp [] (by rw [List.append_nil]; exact h1.2.app)
  have hget : ∀ (k : Nat) (e : Ent), want.hp[k]? = some e → st.hp[k]? = some e := fun k e hk => by
    have := he (0 + k, e) (number_mem want.hp 0 k e hk)
    simpa using this
  refine ⟨It.nat_inj h1.1, hm.defers, hm.size, fun t v hv => ?_, hm.below, fun k e hk => hm.hold k e (hget k e hk), fun k e hk => hm.own k e (hget k e hk), fun k k' e e' hne hk hk' => hm.diff k k' e e' hne (hget k e hk) (hget k' e' hk')⟩
  have hv' : (want.fr[t]?).bind id = some v := hv
  cases hh : want.fr[t]? with
  | none => rw [hh] at hv'; cases hv'
  | some o =>
    rw [hh] at hv'
    simp only [Option.bind_some, id] at hv'
    subst hv'
    have := hs t v hh
    rw [Nat.zero_add] at this
    exact hm.slot t v this

theorem ev_slot {st : St} {a : Act} {w : World} (hm : Mod w0 N (toX st) a w) (c : Operand) (t : Bool) (h : ev st.fr c = .bool t) : a.eval c = .bool t := by
  cases c with
  | tmp i =>
    simp only [ev] at h
    cases hs : slot st.fr i with
    | none => rw [hs] at h; simp [undef] at h
    | some v =>
      rw [hs] at h
      simp only [Option.getD_some] at h
      have := hm.slot i v hs
      show a.tmps.getD i undef = _
      simp [Array.getD_eq_getD_getElem?, this, h]
  | const v => exact h
  | global g => simp [ev] at h
  | func f => simp [ev] at h

theorem region_true (hmix : P.follows .mixedOrders = true) (id : Nat) (ops : Array Oper) (draw : Bool) : True_ P w0 N (exec P (.region id ops draw)) (fun a w Q => (Code.region id ops draw).wp P Q a w) := by
  intro st recs E K a w Q hm hN hrec hgood hQ
  -- the dry run
  obtain ⟨gs0, o0, s0, hl0, hx0, _⟩ := good_some hgood
  have hreg : ∀ gs o s', exec P (.region id ops draw) ⟨st, gs, recs, E⟩ = some (o, s') → o = .normal ∧ region P ops.toList draw ⟨st, gs, recs, E⟩ = some s' := fun gs o s' h => by
    simp only [exec] at h
    split at h
    · rename_i s1 h1
      simp only [Option.some.injEq, Prod.mk.injEq] at h
      exact ⟨h.1.symm, by rw [← h.2]; exact h1⟩
    · cases h
  obtain ⟨_, hx0⟩ := hreg _ _ _ hx0
  cases hd : stepsR P (fun _ => 0) ops.toList ops.toList 0 ⟨st, 0, recs, [], []⟩ with
  | none => unfold region at hx0; dsimp only at hx0; rw [hd] at hx0; cases hx0
  | some g0 =>
    have hn : g0.n ≤ K := by
      unfold region at hx0
      dsimp only at hx0
      rw [hd] at hx0
      dsimp only at hx0
      split at hx0
      · cases hx0
      · omega
    have hpure : ∀ (δ gs : List Nat), δ.length = g0.n → (fun i => ((δ ++ gs).take g0.n).getD i 0) = fun i => δ.getD i 0 := fun δ gs hδ => by
      rw [← hδ, List.take_left]
    have hmain : ∀ (δ gs : List Nat), δ.length = g0.n → δ.length + gs.length = K → ∃ g, stepsR P (fun i => δ.getD i 0) ops.toList ops.toList 0 ⟨st, 0, recs, E, []⟩ = some g ∧ EqOk g.E ∧ g.acts.map keyOf = g0.acts.map keyOf ∧
        (draw = true → freeB ops.toList g.acts = true ∧ edgesOk ops.toList = true) ∧ exec P (.region id ops draw) ⟨st, δ ++ gs, recs, E⟩ = some (.normal, ⟨g.st, gs, g.recs, g.E⟩) := fun δ gs hδ hK => by
      obtain ⟨o, s', h1, h2⟩ := hgood (δ ++ gs) (by rw [List.length_append]; exact hK)
      obtain ⟨ho, h3⟩ := hreg _ _ _ h1
      subst ho
      have h3' := h3
      unfold region at h3
      dsimp only at h3
      rw [hd] at h3
      dsimp only at h3
      split at h3
      · cases h3
      · rw [hpure δ gs hδ] at h3
        split at h3
        · cases h3
        · rename_i g hg
          split at h3
          · rename_i hb
            cases h3
            simp only [Bool.and_eq_true, Bool.or_eq_true, Bool.not_eq_true', beq_iff_eq] at hb
            refine ⟨g, hg, h2, hb.1, fun hdr => ?_, ?_⟩
            · rcases hb.2 with hb2 | hb2
              · rw [hdr] at hb2; cases hb2
              · exact hb2
            · rw [h1]
              rw [← hδ, List.drop_left]
          · cases h3
    have hfun : ∀ γ : Nat → Nat, (∀ i, g0.n ≤ i → γ i = 0) → (fun i => ((List.range g0.n).map γ).getD i 0) = γ := fun γ hγ => by
      funext i
      by_cases hi : i < g0.n
      · simp [List.getD_eq_getElem?_getD, hi]
      · rw [hγ i (by omega)]
        simp [List.getD_eq_getElem?_getD, hi]
    obtain ⟨gd, hd1, hd2, hd3, _⟩ := hmain (List.replicate g0.n 0) (List.replicate (K - g0.n) 0) (by simp) (by simp; omega)
    refine region_wp (n := g0.n) (ks0 := g0.acts.map keyOf) (E := E) (w0 := w0) (N := N) (recs0 := recs) hmix hm hN hrec (fun γ hγ => ?_) (fun k hk => ?_) (fun γ g a' w' hγ hg hlen hm' => ?_)
    · obtain ⟨g, h1, h2, h3, h4, _⟩ := hmain ((List.range g0.n).map γ) (List.replicate (K - g0.n) 0) (by simp) (by simp; omega)
      rw [hfun γ hγ] at h1
      exact ⟨g, h1, h2, h3, h4⟩
    · have hz : (fun i => (List.replicate g0.n 0).getD i 0) = fun _ => 0 := by
        funext i
        by_cases hi : i < g0.n <;> simp [List.getD_eq_getElem?_getD, hi]
      rw [hz] at hd1
      obtain ⟨l, k1, _, _, _, _, k6, _⟩ := stepsR_lex (w0 := w0) (N := N) (recs0 := recs) ops.toList 0 _ _ (fun j _ => by rw [Nat.zero_add, Array.getElem?_toList]) hd1 hd2 hrec ⟨[], rfl⟩ hN
      have hnn : gd.n = g0.n := by
        -- the last action's numbers end at n; the count is the sum of the keys
        have cnt : ∀ (E1 E2 : List (It × It)) (γ : Nat → Nat) (rest : List Oper) (i : Nat) (g1 g2 h1 h2 : G), stepsR P γ ops.toList rest i g1 = some h1 → stepsR P γ ops.toList rest i g2 = some h2 → g1.n = g2.n → g1.acts.map keyOf = g2.acts.map keyOf →
            h1.acts.map keyOf = h2.acts.map keyOf → h1.n = h2.n := by
          intro E1 E2 γ rest
          induction rest with
          | nil =>
            intro i g1 g2 h1 h2 e1 e2 hn' _ _
            simp only [stepsR, Option.some.injEq] at e1 e2
            rw [← e1, ← e2]; exact hn'
          | cons o rest ih =>
            intro i g1 g2 h1 h2 e1 e2 hn' hk1 hk2
            simp only [stepsR] at e1 e2
            split at e1
            · cases e1
            · rename_i g1' s1
              split at e2
              · cases e2
              · rename_i g2' s2
                have nn : ∀ (g g' : G), step1 P γ ops.toList o i g = some g' → ∃ A, g'.acts = A :: g.acts ∧ A.al = (g.n, g'.n - g.n) ∧ g.n ≤ g'.n := fun g g' hs => by
                  obtain ⟨_, _, hway⟩ := step1_way hs
                  cases hway with
                  | off ds rs hw hr h => subst h; exact ⟨_, rfl, rfl, Nat.le_refl _⟩
                  | on ds rs hw hr nx v tag m ha hn rh wh q1 q2 h => subst h; exact ⟨_, rfl, rfl, (arun_ext _ _ _ _ ha).n⟩
                  | call ds rs hw hr f f' args m args' need k val news tag recs ha hwr hrd hrec h => subst h; exact ⟨_, rfl, rfl, Nat.le_add_right _ _⟩
                  | eff ds rs hw hr d deep need s k val upd news tag recs hrec δ hδ ls hls σ hσ hu h => subst h; exact ⟨_, rfl, rfl, Nat.le_add_right _ _⟩
                  | fact ds rs hw hr d need s v recs hrec h => subst h; exact ⟨_, rfl, rfl, Nat.le_refl _⟩
                have acts_suffix : ∀ (rest : List Oper) (i : Nat) (g g' : G), stepsR P γ ops.toList rest i g = some g' → ∃ l, g'.acts = l ++ g.acts ∧ l.length = rest.length := by
                  intro rest
                  induction rest with
                  | nil => intro i g g' hs; simp only [stepsR, Option.some.injEq] at hs; exact ⟨[], by rw [hs]; rfl, rfl⟩
                  | cons o' rest ih' =>
                    intro i g g' hs
                    simp only [stepsR] at hs
                    split at hs
                    · cases hs
                    · rename_i gm hsm
                      obtain ⟨l, hl, hll⟩ := ih' _ _ _ hs
                      have : ∃ A, gm.acts = A :: g.acts := by
                        obtain ⟨_, _, hway⟩ := step1_way hsm
                        cases hway with
                        | off ds rs hw hr h => subst h; exact ⟨_, rfl⟩
                        | on ds rs hw hr nx v tag m ha hn rh wh q1 q2 h => subst h; exact ⟨_, rfl⟩
                        | call ds rs hw hr f f' args m args' need k val news tag recs ha hwr hrd hrec h => subst h; exact ⟨_, rfl⟩
                        | eff ds rs hw hr d deep need s k val upd news tag recs hrec δ hδ ls hls σ hσ hu h => subst h; exact ⟨_, rfl⟩
                        | fact ds rs hw hr d need s v recs hrec h => subst h; exact ⟨_, rfl⟩
                      obtain ⟨A, hA⟩ := this
                      exact ⟨l ++ [A], by rw [hl, hA]; simp, by simp [hll]⟩
                obtain ⟨A1, a1, b1, c1⟩ := nn _ _ s1
                obtain ⟨A2, a2, b2, c2⟩ := nn _ _ s2
                obtain ⟨l1, m1, m1'⟩ := acts_suffix rest _ _ _ e1
                obtain ⟨l2, m2, m2'⟩ := acts_suffix rest _ _ _ e2
                have hk3 : l1.map keyOf ++ g1'.acts.map keyOf = l2.map keyOf ++ g2'.acts.map keyOf := by
                  rw [← List.map_append, ← m1, ← List.map_append, ← m2]; exact hk2
                have hk4 := (List.append_inj hk3 (by simp [m1', m2'])).2
                refine ih _ _ _ _ _ e1 e2 ?_ hk4 hk2
                rw [a1, a2, List.map_cons, List.map_cons] at hk4
                injection hk4 with hk4 _
                unfold keyOf at hk4
                rw [b1, b2] at hk4
                simp only [Prod.mk.injEq] at hk4
                omega
        exact cnt [] [] (fun _ => 0) ops.toList 0 _ _ gd g0 hd1 hd rfl rfl hd3
      rw [← hd3, k1] at hk
      simp only [List.append_nil, List.map_reverse, List.mem_reverse, List.mem_map] at hk
      obtain ⟨A, hA, rfl⟩ := hk
      have := (k6 A hA).2
      rw [hnn] at this
      exact this
    · refine hQ ((List.range g0.n).map γ) .normal g.st g.recs g.E a' w' ⟨by simp; exact hn, fun gs hgs => ?_⟩ hlen hm'
      obtain ⟨g', h1, _, _, _, h5⟩ := hmain ((List.range g0.n).map γ) gs (by simp) hgs
      rw [hfun γ hγ, hg] at h1
      cases h1
      exact h5

theorem exec_true (hmix : P.follows .mixedOrders = true) : ∀ c : Code, True_ P w0 N (exec P c) (fun a w Q => c.wp P Q a w) := by
  intro c
  induction c with
  | skip =>
    intro st recs E K a w Q hm hN hrec hgood hQ
    exact wp_skip (hQ [] .normal st recs E a w ⟨by simp, fun gs _ => rfl⟩ hN hm)
  | exit id =>
    intro st recs E K a w Q hm hN hrec hgood hQ
    exact wp_exit (hQ [] (.exit id) st recs E a w ⟨by simp, fun gs _ => rfl⟩ hN hm)
  | ret =>
    intro st recs E K a w Q hm hN hrec hgood hQ
    exact wp_ret (hQ [] .ret st recs E a w ⟨by simp, fun gs _ => rfl⟩ hN hm)
  | region id ops draw => exact region_true hmix id ops draw
  | cond c x y ihx ihy =>
    intro st recs E K a w Q hm hN hrec hgood hQ
    obtain ⟨gs0, o0, s0, hl0, hx0, _⟩ := good_some hgood
    simp only [exec] at hx0
    cases hv : ev st.fr c with
    | bool t =>
      have he := ev_slot hm c t hv
      cases t with
      | true =>
        refine wp_cond_true he (ihx st recs E K a w Q hm hN hrec (fun gs hgs => ?_) (fun δ o st' recs' E' a' w' h => hQ δ o st' recs' E' a' w' ⟨h.1, fun gs hgs => ?_⟩))
        · obtain ⟨o, s', h1, h2⟩ := hgood gs hgs
          simp only [exec, hv] at h1
          exact ⟨o, s', h1, h2⟩
        · simp only [exec, hv]; exact h.2 gs hgs
      | false =>
        refine wp_cond_false he (ihy st recs E K a w Q hm hN hrec (fun gs hgs => ?_) (fun δ o st' recs' E' a' w' h => hQ δ o st' recs' E' a' w' ⟨h.1, fun gs hgs => ?_⟩))
        · obtain ⟨o, s', h1, h2⟩ := hgood gs hgs
          simp only [exec, hv] at h1
          exact ⟨o, s', h1, h2⟩
        · simp only [exec, hv]; exact h.2 gs hgs
    | _ => rw [hv] at hx0; cases hx0
  | seq x y ihx ihy =>
    intro st recs E K a w Q hm hN hrec hgood hQ
    refine wp_seq (ihx st recs E K a w _ hm hN hrec (fun gs hgs => ?_) (fun δ o st1 recs1 E1 a1 w1 h hN1 hm1 => ?_))
    · obtain ⟨o, s', h1, h2⟩ := hgood gs hgs
      simp only [exec] at h1
      split at h1
      · rename_i s1 hs1
        obtain ⟨⟨l, hl⟩, _⟩ := exec_ext y _ _ _ h1
        exact ⟨.normal, s1, hs1, EqOk.app (l := l) (by rw [← hl]; exact h2)⟩
      · exact ⟨o, s', h1, h2⟩
    · cases o with
      | normal =>
        show y.wp P Q a1 w1
        obtain ⟨_, ⟨lr, hlr⟩⟩ := exec_ext x _ _ _ (h.2 (List.replicate (K - δ.length) 0) (by have := h.1; simp; omega))
        dsimp only at hlr
        refine ihy st1 recs1 E1 (K - δ.length) a1 w1 Q hm1 hN1 (fun r hr => hrec r (by rw [hlr]; exact List.mem_append_right _ hr)) (fun gs hgs => ?_) (fun δ2 o st2 recs2 E2 a2 w2 h2 hN2 hm2 => ?_)
        · obtain ⟨o, s', h1, h3⟩ := hgood (δ ++ gs) (by have := h.1; rw [List.length_append]; omega)
          simp only [exec] at h1
          rw [h.2 gs (by have := h.1; omega)] at h1
          exact ⟨o, s', h1, h3⟩
        · refine hQ (δ ++ δ2) o st2 recs2 E2 a2 w2 ⟨by have := h.1; have := h2.1; rw [List.length_append]; omega, fun gs hgs => ?_⟩ hN2 hm2
          rw [List.length_append] at hgs
          simp only [exec, List.append_assoc]
          rw [h.2 (δ2 ++ gs) (by rw [List.length_append]; omega)]
          exact h2.2 gs (by omega)
      | exit id =>
        refine hQ δ (.exit id) st1 recs1 E1 a1 w1 ⟨h.1, fun gs hgs => ?_⟩ hN1 hm1
        simp only [exec]
        rw [h.2 gs hgs]
      | ret =>
        refine hQ δ .ret st1 recs1 E1 a1 w1 ⟨h.1, fun gs hgs => ?_⟩ hN1 hm1
        simp only [exec]
        rw [h.2 gs hgs]
  | block id c ih =>
    intro st recs E K a w Q hm hN hrec hgood hQ
    refine wp_block (ih st recs E K a w _ hm hN hrec (fun gs hgs => ?_) (fun δ o st1 recs1 E1 a1 w1 h hN1 hm1 => ?_))
    · obtain ⟨o, s', h1, h2⟩ := hgood gs hgs
      simp only [exec] at h1
      split at h1
      · rename_i i s1 hs1
        refine ⟨_, s1, hs1, ?_⟩
        split at h1 <;> (cases h1; exact h2)
      · exact ⟨o, s', h1, h2⟩
    · cases o with
      | normal =>
        refine hQ δ .normal st1 recs1 E1 a1 w1 ⟨h.1, fun gs hgs => ?_⟩ hN1 hm1
        simp only [exec]
        rw [h.2 gs hgs]
      | ret =>
        refine hQ δ .ret st1 recs1 E1 a1 w1 ⟨h.1, fun gs hgs => ?_⟩ hN1 hm1
        simp only [exec]
        rw [h.2 gs hgs]
      | exit i =>
        by_cases hi : i = id
        · subst hi
          show (if i = i then Q .normal a1 w1 else _)
          rw [if_pos rfl]
          refine hQ δ .normal st1 recs1 E1 a1 w1 ⟨h.1, fun gs hgs => ?_⟩ hN1 hm1
          simp only [exec]
          rw [h.2 gs hgs]
          simp
        · show (if i = id then _ else Q (.exit i) a1 w1)
          rw [if_neg hi]
          refine hQ δ (.exit i) st1 recs1 E1 a1 w1 ⟨h.1, fun gs hgs => ?_⟩ hN1 hm1
          simp only [exec]
          rw [h.2 gs hgs]
          simp [hi]
  | loop c ih =>
    intro st recs E K a w Q hm hN hrec hgood hQ
    by_cases hcode : ∃ c' k pre post out recs', recs = .codeN c' k pre post out :: recs'
    · obtain ⟨c', k, pre, post, out, recs', rfl⟩ := hcode
      have hx : ∀ gs : List Nat, gs.length = K → k ≤ K ∧ exec P (.loop c) ⟨st, gs, .codeN c' k pre post out :: recs', E⟩ = some (out, ⟨post (st.hp.map (·.g)) (fun q => (gs.take k).getD q 0), gs.drop k, recs',
          (It.code c, It.code c') :: (It.nat (post (st.hp.map (·.g)) (fun q => (gs.take k).getD q 0)).fr.length, It.nat st.fr.length) :: (chk (pre (st.hp.map (·.g))) st ++ E)⟩) ∧
          EqOk ((It.code c, It.code c') :: (It.nat (post (st.hp.map (·.g)) (fun q => (gs.take k).getD q 0)).fr.length, It.nat st.fr.length) :: (chk (pre (st.hp.map (·.g))) st ++ E)) := fun gs hgs => by
        obtain ⟨o, s', h1, h2⟩ := hgood gs hgs
        have h1' := h1
        simp only [exec] at h1
        split at h1
        · cases h1
        · rename_i hlt
          simp only [Option.some.injEq, Prod.mk.injEq] at h1
          rw [← h1.2] at h2
          rw [← h1.1, ← h1.2] at h1'
          exact ⟨by omega, h1', h2⟩
      have hfun : ∀ δ : Nat → Nat, (∀ q, k ≤ q → δ q = 0) → ∀ gs : List Nat, (fun q => (((List.range k).map δ ++ gs).take k).getD q 0) = δ := fun δ hδ gs => by
        funext q
        rw [List.take_append_of_le_length (by simp), List.take_of_length_le (by simp)]
        by_cases hq : q < k
        · simp [List.getD_eq_getElem?_getD, hq]
        · rw [hδ q (by omega)]
          simp [List.getD_eq_getElem?_getD, hq]
      obtain ⟨hkK, _, hE0⟩ := hx (List.replicate K 0) (by simp)
      have h1 := hE0.cons
      have h2 := h1.2.cons
      have hc : c = c' := by have := h1.1; injection this
      obtain ⟨hl, hm'⟩ := hm.of_chk (EqOk.left (E := E) h2.2)
      have hok : Rec.OkF P w0 (.codeN c' k pre post out) := hrec _ (by simp)
      have hN' : (pre (st.hp.map (·.g))).fr.length = N := by rw [hl]; exact hN
      subst hc
      refine wp_mono (hok (st.hp.map (·.g)) a w (by rw [hN']; exact hm')) ?_
      rintro e a' w' ⟨δ, hδ, rfl, hm2⟩
      rw [hN'] at hm2
      obtain ⟨_, _, hE1⟩ := hx ((List.range k).map δ ++ List.replicate (K - k) 0) (by simp; omega)
      rw [hfun δ hδ] at hE1
      have hlen := It.nat_inj hE1.cons.2.cons.1
      refine hQ ((List.range k).map δ) out (post (st.hp.map (·.g)) δ) recs' ((It.code c, It.code c) :: (It.nat (post (st.hp.map (·.g)) δ).fr.length, It.nat st.fr.length) :: (chk (pre (st.hp.map (·.g))) st ++ E)) a' w' ⟨by simpa using hkK, fun gs hgs => ?_⟩ (by rw [← hN]; exact hlen) hm2
      obtain ⟨_, e1, _⟩ := hx ((List.range k).map δ ++ gs) (by simpa using hgs)
      rw [e1, hfun δ hδ, List.drop_left' (by simp)]
    have hexec : ∀ gs, exec P (.loop c) ⟨st, gs, recs, E⟩ = iter (exec P c) 1000 ⟨st, gs, recs, E⟩ := fun gs => by
      simp only [exec]
      split
      · exact absurd ⟨_, _, _, _, _, _, rfl⟩ hcode
      · rfl
    refine wp_loop_rounds 1000 ?_
    have key : ∀ (n : Nat) (st : St) (recs : List Rec) (E : List (It × It)) (K : Nat) (a : Act) (w : World), Mod w0 N (toX st) a w → st.fr.length = N → (∀ r ∈ recs, r.OkF P w0) → Good (iter (exec P c) n) st recs E K →
        (∀ δ o st' recs' E' a' w', Ends (iter (exec P c) n) st recs E K δ o st' recs' E' → st'.fr.length = N → Mod w0 N (toX st') a' w' → Q o.exit_ a' w') → Code.rounds P c Q n a w := by
      intro n
      induction n with
      | zero =>
        intro st recs E K a w hm hN hrec hgood hQ
        obtain ⟨gs0, o0, s0, hl0, hx0, _⟩ := good_some hgood
        cases hx0
      | succ n ihn =>
        intro st recs E K a w hm hN hrec hgood hQ
        rw [rounds_succ]
        refine ih st recs E K a w _ hm hN hrec (fun gs hgs => ?_) (fun δ o st1 recs1 E1 a1 w1 h hN1 hm1 => ?_)
        · obtain ⟨o, s', h1, h2⟩ := hgood gs hgs
          simp only [iter] at h1
          split at h1
          · rename_i s1 hs1
            obtain ⟨⟨l, hl⟩, _⟩ := iter_ext (exec_ext c) n _ _ _ h1
            exact ⟨.normal, s1, hs1, EqOk.app (l := l) (by rw [← hl]; exact h2)⟩
          · exact ⟨o, s', h1, h2⟩
        · cases o with
          | normal =>
            show Code.rounds P c Q n a1 w1
            obtain ⟨_, ⟨lr, hlr⟩⟩ := exec_ext c _ _ _ (h.2 (List.replicate (K - δ.length) 0) (by have := h.1; simp; omega))
            dsimp only at hlr
            refine ihn st1 recs1 E1 (K - δ.length) a1 w1 hm1 hN1 (fun r hr => hrec r (by rw [hlr]; exact List.mem_append_right _ hr)) (fun gs hgs => ?_) (fun δ2 o st2 recs2 E2 a2 w2 h2 hN2 hm2 => ?_)
            · obtain ⟨o, s', h1, h3⟩ := hgood (δ ++ gs) (by have := h.1; rw [List.length_append]; omega)
              simp only [iter] at h1
              rw [h.2 gs (by have := h.1; omega)] at h1
              exact ⟨o, s', h1, h3⟩
            · refine hQ (δ ++ δ2) o st2 recs2 E2 a2 w2 ⟨by have := h.1; have := h2.1; rw [List.length_append]; omega, fun gs hgs => ?_⟩ hN2 hm2
              rw [List.length_append] at hgs
              simp only [iter, List.append_assoc]
              rw [h.2 (δ2 ++ gs) (by rw [List.length_append]; omega)]
              exact h2.2 gs (by omega)
          | exit id =>
            refine hQ δ (.exit id) st1 recs1 E1 a1 w1 ⟨h.1, fun gs hgs => ?_⟩ hN1 hm1
            simp only [iter]
            rw [h.2 gs hgs]
          | ret =>
            refine hQ δ .ret st1 recs1 E1 a1 w1 ⟨h.1, fun gs hgs => ?_⟩ hN1 hm1
            simp only [iter]
            rw [h.2 gs hgs]
    exact key 1000 st recs E K a w hm hN hrec (fun gs hgs => by rw [← hexec]; exact hgood gs hgs) (fun δ o st' recs' E' a' w' h => hQ δ o st' recs' E' a' w' ⟨h.1, fun gs hgs => by rw [hexec]; exact h.2 gs hgs⟩)
  | _ =>
    intro st recs E K a w Q hm hN hrec hgood hQ
    obtain ⟨gs0, o0, s0, hl0, hx0, _⟩ := good_some hgood
    simp [exec] at hx0
end

end Go.Ex

namespace Go.Ex
open Go.RowKit

def retOne (P : Program) (st : St) : ResultVar → Option (Value × List (It × It))
  | .tmp t => match slot st.fr t with
    | some v => some (v, [])
    | none => none
  | .cell ad t => match slot st.fr ad, st.tg[ad]? with
    | some v, some (.at_ j) =>
      match arun P (fun _ => 0) (fun _ => some j) (do loadVar t (← asAddr v)) ⟨st.hp, 0, 0, [], [], []⟩ with
      | some (u, m) => match m.wr with
        | [] => some (u, m.E)
        | _ => none
      | none => none
    | _, _ => none

def retAll (P : Program) (st : St) : List ResultVar → Option (List Value × List (It × It))
  | [] => some ([], [])
  | r :: rs => match retOne P st r, retAll P st rs with
    | some (v, E1), some (vs, E2) => some (v :: vs, E1 ++ E2)
    | _, _ => none

def pack : List Value → Value
  | [v] => v
  | vs => .tuple vs.toArray

/-- What a call comes to: what must be equal, and the value. -/
def fin (P : Program) (rs : List ResultVar) (want : List (Nat × Ent)) : Option (Out × S) → Option (List (It × It) × Value)
  | some (.normal, s) => (retAll P s.st rs).map fun (vs, E) => (E ++ (eqs want s.st.hp ++ s.E), pack vs)
  | some (.ret, s) => (retAll P s.st rs).map fun (vs, E) => (E ++ (eqs want s.st.hp ++ s.E), pack vs)
  | _ => none

def outL (P : Program) (rs : List ResultVar) (want : List (Nat × Ent)) (r : Option (Out × S)) : List It :=
  match fin P rs want r with
  | some (E, v) => .val v :: E.map (·.1)
  | none => [.nat 0]

def outR (P : Program) (rs : List ResultVar) (want : List (Nat × Ent)) (v : Value) (r : Option (Out × S)) : List It :=
  match fin P rs want r with
  | some (E, _) => .val v :: E.map (·.2)
  | none => [.nat 1]

theorem out_eq {P : Program} {rs : List ResultVar} {want : List (Nat × Ent)} {v : Value} {r : Option (Out × S)} (h : outL P rs want r = outR P rs want v r) : ∃ E, fin P rs want r = some (E, v) ∧ EqOk E := by
  unfold outL outR at h
  cases hf : fin P rs want r with
  | none => rw [hf] at h; injection h with h _; injection h with h; cases h
  | some p =>
    obtain ⟨E, u⟩ := p
    rw [hf] at h
    injection h with h1 h2
    injection h1 with h1
    subst h1
    exact ⟨E, rfl, h2⟩

/-- A function's first state. -/
def start (n : Nat) (args : List (Value × Tag)) (hp : List Ent) : St :=
  ⟨args.map (fun p => some p.1) ++ List.replicate (n - args.length) (some undef), args.map (·.2) ++ List.replicate (n - args.length) .no, hp⟩

def resF (tmps : Array Value) : ResultVar → Sem Value
  | .tmp t => pure (tmps.getD t undef)
  | .cell ad t => do loadVar t (← asAddr (tmps.getD ad undef))

theorem results_eq (fn : Func) (tmps : Array Value) : results fn tmps = (do
    let vs ← fn.results.mapM (resF tmps)
    pure (if h : vs.size = 1 then vs[0] else .tuple vs)) := by
  unfold results
  congr 1

section
variable {P : Program} {w0 : Frm} {N : Nat}

theorem retOne_sound {st : St} {a : Act} {w : World} (hm : Mod w0 N (toX st) a w) (r : ResultVar) (v : Value) (E : List (It × It)) (h : retOne P st r = some (v, E)) (hE : EqOk E) :
    (resF a.tmps r).run P w = .ok v w := by
  have hget : ∀ t u, slot st.fr t = some u → a.tmps.getD t undef = u := fun t u hs => by
    have := hm.slot t u hs
    simp [Array.getD_eq_getD_getElem?, this]
  cases r with
  | tmp t =>
    simp only [retOne] at h
    split at h
    · rename_i u hs
      cases h
      show (pure (a.tmps.getD t undef) : Sem Value).run P w = _
      rw [hget t v hs]
      rfl
    · cases h
  | cell ad t =>
    simp only [retOne] at h
    split at h
    · rename_i u j hs hj
      split at h
      · rename_i u' m hr
        split at h
        · rename_i hw
          cases h
          show (do loadVar t (← asAddr (a.tmps.getD ad undef)) : Sem Value).run P w = _
          rw [hget ad u hs]
          obtain ⟨w', lw, hrun, hlw, hR⟩ := arun_sound _ (fun k => True) _ _ _ w hr hE ⟨fun k e _ he => hm.hold k e he, fun k k' e e' _ _ hne he he' ho => hm.diff k k' e e' hne he he' ho⟩ (fun _ _ => trivial) (fun q hq => by
            obtain ⟨lw0, k1, k2, k3, k4, k5⟩ := arun_shp _ _ _ _ hr
            rw [hw] at k1
            simp only [List.append_nil] at k1
            rw [(k5 k1.symm).1] at hq
            dsimp only at hq
            omega)
          rw [hw] at hlw
          simp only [List.append_nil] at hlw
          rw [(hR.nil hlw.symm).1] at hrun
          exact hrun
        · cases h
      · cases h
    · cases h

theorem retAll_sound {st : St} {a : Act} {w : World} (hm : Mod w0 N (toX st) a w) : ∀ (rs : List ResultVar) (vs : List Value) (E : List (It × It)), retAll P st rs = some (vs, E) → EqOk E →
    (rs.mapM (resF a.tmps)).run P w = .ok vs w
  | [], vs, E, h, _ => by
    simp only [retAll, Option.some.injEq, Prod.mk.injEq] at h
    rw [← h.1]
    rfl
  | r :: rs, vs, E, h, hE => by
    simp only [retAll] at h
    split at h
    · rename_i v E1 vs' E2 h1 h2
      cases h
      rw [List.mapM_cons, Sem.run_bind, retOne_sound hm r v E1 h1 hE.left]
      simp only [Result.andThen_ok]
      rw [Sem.run_bind, retAll_sound hm rs vs' E2 h2 hE.app]
      rfl
    · cases h

theorem results_run {fn : Func} {st : St} {a : Act} {w : World} (hm : Mod w0 N (toX st) a w) {vs : List Value} {E : List (It × It)} (h : retAll P st fn.results.toList = some (vs, E)) (hE : EqOk E) :
    (results fn a.tmps).run P w = .ok (pack vs) w := by
  rw [results_eq, Array.mapM_eq_mapM_toList, Sem.run_bind, Sem.run_map, retAll_sound hm _ vs E h hE]
  simp only [Result.andThen_ok, Sem.run_pure]
  cases vs with
  | nil => rfl
  | cons v vs =>
    cases vs with
    | nil => rfl
    | cons u us => rfl

theorem calls {f : FuncId} {fn : Func} {c : Code} (hf : P.funcs[f]? = some fn) (hb : fn.body = some c) (hmix : P.follows .mixedOrders = true) (K : Nat) (args : List (Value × Tag)) (hp : List Ent) (recs : List Rec)
    (v : (Nat → Nat) → Value) (want : (Nat → Nat) → List (Nat × Ent)) (w : World) (hhp : ∀ e ∈ hp, e.own = false ∧ e.holds w) (hrecs : ∀ r ∈ recs, r.Ok P w)
    (heq : ∀ γ : Nat → Nat, outL P fn.results.toList (want γ) (exec P c ⟨start fn.ntmps args hp, (List.range K).map γ, recs, []⟩) = outR P fn.results.toList (want γ) (v γ) (exec P c ⟨start fn.ntmps args hp, (List.range K).map γ, recs, []⟩)) :
    Calls P f (args.map (·.1)).toArray w fun e w' => ∃ γ : Nat → Nat, e = .returned (v γ) ∧ Below w.heap.size w w' ∧ (∀ p ∈ want γ, p.2.holds w' ∧ (p.2.own = true → w.heap.size ≤ p.2.g)) ∧
      (∀ p ∈ want γ, ∀ q ∈ want γ, p.1 ≠ q.1 → p.2.own = true → p.2.g ≠ q.2.g) := by
  refine calls_of_wp hf hb ?_
  have hlist : ∀ gs : List Nat, gs.length = K → (List.range K).map (fun i => gs.getD i 0) = gs := fun gs hgs => by
    apply List.ext_getElem?
    intro i
    by_cases hi : i < K
    · simp [List.getD_eq_getElem?_getD, hi, List.getElem?_eq_getElem (show i < gs.length by omega)]
    · rw [List.getElem?_eq_none (by simp; omega), List.getElem?_eq_none (by omega)]
  have hm : Mod (Frm.of w) (start fn.ntmps args hp).fr.length (toX (start fn.ntmps args hp)) { tmps := (args.map (·.1)).toArray ++ Array.replicate (fn.ntmps - (args.map (·.1)).toArray.size) undef, defers := [] } w := by
    refine ⟨rfl, by simp [start], fun t u hu => ?_, Frm.Keeps.refl (Frm.of w), fun k e he => (hhp e (List.mem_of_getElem? he)).2, fun k e he ho => ?_, fun k k' e e' _ he _ ho => ?_⟩
    · have hu' : ((start fn.ntmps args hp).fr[t]?).bind id = some u := hu
      have e1 : (start fn.ntmps args hp).fr = (args.map (·.1) ++ List.replicate (fn.ntmps - args.length) undef).map some := by simp [start]
      rw [e1, List.getElem?_map] at hu'
      rw [← Array.getElem?_toList]
      simp only [Array.toList_append, Array.toList_replicate, List.size_toArray, List.length_map]
      cases hh : (args.map (·.1) ++ List.replicate (fn.ntmps - args.length) undef)[t]? with
      | none => rw [hh] at hu'; simp at hu'
      | some u' => rw [hh] at hu'; simpa using hu'
    · rw [(hhp e (List.mem_of_getElem? he)).1] at ho; cases ho
    · rw [(hhp e (List.mem_of_getElem? he)).1] at ho; cases ho
  refine exec_true hmix c (start fn.ntmps args hp) recs [] K _ w _ hm rfl hrecs (fun gs hgs => ?_) (fun δ o st' recs' E' a' w' h hN' hm' => ?_)
  · have h1 := heq (fun i => gs.getD i 0)
    rw [hlist gs hgs] at h1
    obtain ⟨E, h2, h3⟩ := out_eq h1
    unfold fin at h2
    split at h2
    · rename_i s hs
      refine ⟨_, s, hs, ?_⟩
      cases hr : retAll P s.st fn.results.toList with
      | none => rw [hr] at h2; cases h2
      | some p =>
        obtain ⟨vs, E1⟩ := p
        rw [hr] at h2
        simp only [Option.map_some, Option.some.injEq, Prod.mk.injEq] at h2
        rw [← h2.1] at h3
        exact h3.app.app
    · rename_i s hs
      refine ⟨_, s, hs, ?_⟩
      cases hr : retAll P s.st fn.results.toList with
      | none => rw [hr] at h2; cases h2
      | some p =>
        obtain ⟨vs, E1⟩ := p
        rw [hr] at h2
        simp only [Option.map_some, Option.some.injEq, Prod.mk.injEq] at h2
        rw [← h2.1] at h3
        exact h3.app.app
    · cases h2
  · have hK : (δ ++ List.replicate (K - δ.length) 0).length = K := by have := h.1; simp; omega
    have h1 := heq (fun i => (δ ++ List.replicate (K - δ.length) 0).getD i 0)
    rw [hlist _ hK, h.2 (List.replicate (K - δ.length) 0) (by have := h.1; simp; omega)] at h1
    obtain ⟨E, h2, h3⟩ := out_eq h1
    have hret : (o = .normal ∨ o = .ret) ∧ ∃ vs E1, retAll P st' fn.results.toList = some (vs, E1) ∧ E = E1 ++ (eqs (want fun i => (δ ++ List.replicate (K - δ.length) 0).getD i 0) st'.hp ++ E') ∧ pack vs = v fun i => (δ ++ List.replicate (K - δ.length) 0).getD i 0 := by
      cases o with
      | normal =>
        simp only [fin] at h2
        cases hr : retAll P st' fn.results.toList with
        | none => rw [hr] at h2; cases h2
        | some p => obtain ⟨vs, E1⟩ := p; rw [hr] at h2; simp only [Option.map_some, Option.some.injEq, Prod.mk.injEq] at h2; exact ⟨.inl rfl, vs, E1, rfl, h2.1.symm, h2.2⟩
      | ret =>
        simp only [fin] at h2
        cases hr : retAll P st' fn.results.toList with
        | none => rw [hr] at h2; cases h2
        | some p => obtain ⟨vs, E1⟩ := p; rw [hr] at h2; simp only [Option.map_some, Option.some.injEq, Prod.mk.injEq] at h2; exact ⟨.inr rfl, vs, E1, rfl, h2.1.symm, h2.2⟩
      | exit id => simp only [fin] at h2; cases h2
    obtain ⟨ho, vs, E1, hr, rfl, hv⟩ := hret
    have hrun := results_run hm' (fn := fn) hr h3.left
    have hwant := eqs_ok _ _ _ h3.app
    have hpost : a'.defers = [] ∧ ∃ u, (results fn a'.tmps).run P w' = .ok u w' ∧ (∃ γ : Nat → Nat, Ending.returned u = .returned (v γ) ∧ Below w.heap.size w w' ∧ (∀ p ∈ want γ, p.2.holds w' ∧ (p.2.own = true → w.heap.size ≤ p.2.g)) ∧
      (∀ p ∈ want γ, ∀ q ∈ want γ, p.1 ≠ q.1 → p.2.own = true → p.2.g ≠ q.2.g)) :=
      ⟨hm'.defers, pack vs, hrun, fun i => (δ ++ List.replicate (K - δ.length) 0).getD i 0, by rw [hv], hm'.below.below, fun p hpm => ⟨hm'.hold _ _ (hwant p hpm), fun ho => Nat.le_of_not_lt (hm'.own _ _ (hwant p hpm) ho)⟩,
        fun p hpm q hqm hne ho => hm'.diff _ _ _ _ hne (hwant p hpm) (hwant q hqm) ho⟩
    rcases ho with rfl | rfl
    · exact hpost
    · exact hpost

/-- Of a function that makes nothing that is handed back. -/
theorem calls0 {f : FuncId} {fn : Func} {c : Code} (hf : P.funcs[f]? = some fn) (hb : fn.body = some c) (hmix : P.follows .mixedOrders = true) (K : Nat) (args : List (Value × Tag)) (hp : List Ent) (recs : List Rec)
    (v : Value) (w : World) (hhp : ∀ e ∈ hp, e.own = false ∧ e.holds w) (hrecs : ∀ r ∈ recs, r.Ok P w)
    (heq : ∀ γ : Nat → Nat, outL P fn.results.toList [] (exec P c ⟨start fn.ntmps args hp, (List.range K).map γ, recs, []⟩) = outR P fn.results.toList [] v (exec P c ⟨start fn.ntmps args hp, (List.range K).map γ, recs, []⟩)) :
    Calls P f (args.map (·.1)).toArray w fun e w' => e = .returned v ∧ Below w.heap.size w w' :=
  (calls hf hb hmix K args hp recs (fun _ => v) (fun _ => []) w hhp hrecs heq).mono fun _ _ ⟨_, h1, h2, _⟩ => ⟨h1, h2⟩

/-- A plain contract as a record. -/
theorem Rec.ok_call {f : FuncId} {args : (Nat → Nat) → List Value} {need : (Nat → Nat) → List (Nat × Ent)} {v : Value} {tag : Tag}
    (h : ∀ (γ : Nat → Nat) (w : World), w0.Keeps w → (∀ p ∈ need γ, p.2.holds w) → Calls P f (args γ).toArray w fun e w' => e = .returned v ∧ Below w.heap.size w w') :
    Rec.OkF P w0 (.call f args need 0 (fun _ => v) (fun _ => []) tag) := fun γ w hb hn =>
  (h γ w hb hn).mono fun _ _ ⟨h1, h2⟩ => ⟨fun _ => 0, fun _ _ => rfl, h1, h2, fun e he => (by cases he), List.Pairwise.nil⟩
end
end Go.Ex

namespace Go.Ex
open Go.RowKit

def ocode : Out → Nat
  | .normal => 0
  | .ret => 1
  | .exit id => id + 2

theorem ocode_inj {a b : Out} (h : ocode a = ocode b) : a = b := by
  cases a <;> cases b <;> simp only [ocode] at h <;> first | rfl | omega | (congr 1; omega)

def endL (want : St) : Option (Out × S) → List It
  | some (o, s) => .nat (ocode o) :: (chk want s.st ++ s.E).map (·.1)
  | none => []

def endR (o : Out) (want : St) : Option (Out × S) → List It
  | some (_, s) => .nat (ocode o) :: (chk want s.st ++ s.E).map (·.2)
  | none => [.nat 0]

theorem end_eq {o : Out} {want : St} {r : Option (Out × S)} (h : endL want r = endR o want r) : ∃ s, r = some (o, s) ∧ EqOk (chk want s.st ++ s.E) := by
  cases r with
  | none => cases h
  | some p =>
    obtain ⟨o', s⟩ := p
    simp only [endL, endR, List.cons.injEq] at h
    have := ocode_inj (It.nat_inj h.1)
    subst this
    exact ⟨s, rfl, h.2⟩

section
variable {P : Program} {w0 : Frm} {N : Nat}

/-- A piece of code, from one state to another that may name the numbers that are made on the way. -/
theorem code_wpN {c : Code} (hmix : P.follows .mixedOrders = true) (st : St) (want : (Nat → Nat) → St) (o : Out) (K : Nat) (recs : List Rec) (hrecs : ∀ r ∈ recs, r.OkF P w0)
    (heq : ∀ γ : Nat → Nat, endL (want γ) (exec P c ⟨st, (List.range K).map γ, recs, []⟩) = endR o (want γ) (exec P c ⟨st, (List.range K).map γ, recs, []⟩)) {a : Act} {w : World} (hm : Mod w0 N (toX st) a w) (hN : st.fr.length = N) :
    c.wp P (fun e a' w' => ∃ γ : Nat → Nat, e = o.exit_ ∧ Mod w0 N (toX (want γ)) a' w' ∧ (want γ).fr.length = N) a w := by
  have hlist : ∀ gs : List Nat, gs.length = K → (List.range K).map (fun i => gs.getD i 0) = gs := fun gs hgs => by
    apply List.ext_getElem?
    intro i
    by_cases hi : i < K
    · simp [List.getD_eq_getElem?_getD, hi, List.getElem?_eq_getElem (show i < gs.length by omega)]
    · rw [List.getElem?_eq_none (by simp; omega), List.getElem?_eq_none (by omega)]
  refine exec_true hmix c st recs [] K a w _ hm hN hrecs (fun gs hgs => ?_) (fun δ o' st' recs' E' a' w' h hN' hm' => ?_)
  · have h1 := heq (fun i => gs.getD i 0)
    rw [hlist gs hgs] at h1
    obtain ⟨s, h2, h3⟩ := end_eq h1
    exact ⟨o, s, h2, h3.app⟩
  · have hK : (δ ++ List.replicate (K - δ.length) 0).length = K := by have := h.1; simp; omega
    have h1 := heq (fun i => (δ ++ List.replicate (K - δ.length) 0).getD i 0)
    rw [hlist _ hK, h.2 (List.replicate (K - δ.length) 0) (by have := h.1; simp; omega)] at h1
    obtain ⟨s, h2, h3⟩ := end_eq h1
    simp only [Option.some.injEq, Prod.mk.injEq] at h2
    obtain ⟨rfl, rfl⟩ := h2
    obtain ⟨e1, e2⟩ := hm'.of_chk h3.left
    exact ⟨_, rfl, e2, e1.trans hN'⟩

/-- A piece of code, from one state to another. -/
theorem code_wp {c : Code} (hmix : P.follows .mixedOrders = true) (st want : St) (o : Out) (K : Nat) (recs : List Rec) (hrecs : ∀ r ∈ recs, r.OkF P w0)
    (heq : ∀ γ : Nat → Nat, endL want (exec P c ⟨st, (List.range K).map γ, recs, []⟩) = endR o want (exec P c ⟨st, (List.range K).map γ, recs, []⟩)) {a : Act} {w : World} (hm : Mod w0 N (toX st) a w) (hN : st.fr.length = N) :
    c.wp P (fun e a' w' => e = o.exit_ ∧ Mod w0 N (toX want) a' w' ∧ want.fr.length = N) a w := by
  have hlist : ∀ gs : List Nat, gs.length = K → (List.range K).map (fun i => gs.getD i 0) = gs := fun gs hgs => by
    apply List.ext_getElem?
    intro i
    by_cases hi : i < K
    · simp [List.getD_eq_getElem?_getD, hi, List.getElem?_eq_getElem (show i < gs.length by omega)]
    · rw [List.getElem?_eq_none (by simp; omega), List.getElem?_eq_none (by omega)]
  refine exec_true hmix c st recs [] K a w _ hm hN hrecs (fun gs hgs => ?_) (fun δ o' st' recs' E' a' w' h hN' hm' => ?_)
  · have h1 := heq (fun i => gs.getD i 0)
    rw [hlist gs hgs] at h1
    obtain ⟨s, h2, h3⟩ := end_eq h1
    exact ⟨o, s, h2, h3.app⟩
  · have hK : (δ ++ List.replicate (K - δ.length) 0).length = K := by have := h.1; simp; omega
    have h1 := heq (fun i => (δ ++ List.replicate (K - δ.length) 0).getD i 0)
    rw [hlist _ hK, h.2 (List.replicate (K - δ.length) 0) (by have := h.1; simp; omega)] at h1
    obtain ⟨s, h2, h3⟩ := end_eq h1
    simp only [Option.some.injEq, Prod.mk.injEq] at h2
    obtain ⟨rfl, rfl⟩ := h2
    obtain ⟨e1, e2⟩ := hm'.of_chk h3.left
    exact ⟨rfl, e2, e1.trans hN'⟩

/-- What a round does. -/
inductive Step (P : Program) (w0 : Frm) (c : Code) {ι : Type} (L : ι → St) (Inv : ι → Prop) (μ : ι → Nat) (out : Out) (post : St) (k : ι) : Prop where
  | go (k' : ι) (h1 : Inv k') (h2 : μ k' < μ k) (K : Nat) (recs : List Rec) (hr : ∀ r ∈ recs, r.OkF P w0)
      (h : ∀ γ : Nat → Nat, endL (L k') (exec P c ⟨L k, (List.range K).map γ, recs, []⟩) = endR .normal (L k') (exec P c ⟨L k, (List.range K).map γ, recs, []⟩))
  | stop (K : Nat) (recs : List Rec) (hr : ∀ r ∈ recs, r.OkF P w0)
      (h : ∀ γ : Nat → Nat, endL post (exec P c ⟨L k, (List.range K).map γ, recs, []⟩) = endR out post (exec P c ⟨L k, (List.range K).map γ, recs, []⟩))

theorem loop_wp {c : Code} (hmix : P.follows .mixedOrders = true) {ι : Type} (L : ι → St) (Inv : ι → Prop) (μ : ι → Nat) (out : Out) (post : St) (ho : out ≠ .normal) (hs : ∀ k, Inv k → Step P w0 c L Inv μ out post k)
    (k : ι) (hk : Inv k) {a : Act} {w : World} (hm : Mod w0 N (toX (L k)) a w) (hN : (L k).fr.length = N) :
    (Code.loop c).wp P (fun e a' w' => e = out.exit_ ∧ Mod w0 N (toX post) a' w') a w := by
  have key : ∀ (n : Nat) (k : ι) (a : Act) (w : World), μ k < n → Inv k → Mod w0 N (toX (L k)) a w → (L k).fr.length = N →
      Code.rounds P c (fun e a' w' => e = out.exit_ ∧ Mod w0 N (toX post) a' w') n a w := by
    intro n
    induction n with
    | zero => intro k a w h; omega
    | succ n ih =>
      intro k a w hlt hk hm hN
      rw [rounds_succ]
      cases hs k hk with
      | go k' h1 h2 K recs hr h =>
        refine wp_mono (code_wp hmix (L k) (L k') .normal K recs hr h hm hN) ?_
        rintro e a' w' ⟨rfl, hm', hN'⟩
        exact ih k' a' w' (by omega) h1 hm' hN'
      | stop K recs hr h =>
        refine wp_mono (code_wp hmix (L k) post out K recs hr h hm hN) ?_
        rintro e a' w' ⟨rfl, hm', _⟩
        cases out with
        | normal => exact absurd rfl ho
        | exit id => exact ⟨rfl, hm'⟩
        | ret => exact ⟨rfl, hm'⟩
  exact wp_loop_rounds (μ k + 1) (key (μ k + 1) k a w (by omega) hk hm hN)

/-- A loop as a record. -/
theorem Rec.ok_code {c : Code} (hmix : P.follows .mixedOrders = true) {ι : Type} (L : List Nat → ι → St) (Inv : ι → Prop) (μ : ι → Nat) (out : Out) (post : List Nat → St) (ho : out ≠ .normal) (k : ι) (hk : Inv k)
    (hs : ∀ gl k, Inv k → Step P w0 c (L gl) Inv μ out (post gl) k) : Rec.OkF P w0 (.code c (fun gl => L gl k) post out) := fun gl _ _ hm =>
  wp_mono (loop_wp hmix (L gl) Inv μ out (post gl) ho (hs gl) k hk hm rfl) fun _ _ _ ⟨h1, h2⟩ => ⟨fun _ => 0, fun _ _ => rfl, h1, h2⟩
/-- What a round does, where states name numbers that are made on the way; it may go back out of the function. -/
inductive StepN (P : Program) (w0 : Frm) (c : Code) {ι : Type} (L : ι → St) (Inv : ι → Prop) (μ : ι → Nat) (out : Out) (k0 : Nat) (post : (Nat → Nat) → St) (k : ι) : Prop where
  | go (k' : (Nat → Nat) → ι) (h1 : ∀ γ, Inv (k' γ)) (h2 : ∀ γ, μ (k' γ) < μ k) (K : Nat) (recs : List Rec) (hr : ∀ r ∈ recs, r.OkF P w0)
      (h : ∀ γ : Nat → Nat, endL (L (k' γ)) (exec P c ⟨L k, (List.range K).map γ, recs, []⟩) = endR .normal (L (k' γ)) (exec P c ⟨L k, (List.range K).map γ, recs, []⟩))
  | stop (f : (Nat → Nat) → Nat → Nat) (hf : ∀ γ q, k0 ≤ q → f γ q = 0) (K : Nat) (recs : List Rec) (hr : ∀ r ∈ recs, r.OkF P w0)
      (h : ∀ γ : Nat → Nat, endL (post (f γ)) (exec P c ⟨L k, (List.range K).map γ, recs, []⟩) = endR out (post (f γ)) (exec P c ⟨L k, (List.range K).map γ, recs, []⟩))

theorem loop_wpN {c : Code} (hmix : P.follows .mixedOrders = true) {ι : Type} (L : ι → St) (Inv : ι → Prop) (μ : ι → Nat) (out : Out) (k0 : Nat) (post : (Nat → Nat) → St) (ho : out ≠ .normal) (hs : ∀ k, Inv k → StepN P w0 c L Inv μ out k0 post k)
    (k : ι) (hk : Inv k) {a : Act} {w : World} (hm : Mod w0 N (toX (L k)) a w) (hN : (L k).fr.length = N) :
    (Code.loop c).wp P (fun e a' w' => ∃ δ : Nat → Nat, (∀ q, k0 ≤ q → δ q = 0) ∧ e = out.exit_ ∧ Mod w0 N (toX (post δ)) a' w') a w := by
  have key : ∀ (n : Nat) (k : ι) (a : Act) (w : World), μ k < n → Inv k → Mod w0 N (toX (L k)) a w → (L k).fr.length = N →
      Code.rounds P c (fun e a' w' => ∃ δ : Nat → Nat, (∀ q, k0 ≤ q → δ q = 0) ∧ e = out.exit_ ∧ Mod w0 N (toX (post δ)) a' w') n a w := by
    intro n
    induction n with
    | zero => intro k a w h; omega
    | succ n ih =>
      intro k a w hlt hk hm hN
      rw [rounds_succ]
      cases hs k hk with
      | go k' h1 h2 K recs hr h =>
        refine wp_mono (code_wpN hmix (L k) (fun γ => L (k' γ)) .normal K recs hr h hm hN) ?_
        rintro e a' w' ⟨γ, rfl, hm', hN'⟩
        exact ih (k' γ) a' w' (by have := h2 γ; omega) (h1 γ) hm' hN'
      | stop f hf K recs hr h =>
        refine wp_mono (code_wpN hmix (L k) (fun γ => post (f γ)) out K recs hr h hm hN) ?_
        rintro e a' w' ⟨γ, rfl, hm', _⟩
        cases out with
        | normal => exact absurd rfl ho
        | exit id => exact ⟨f γ, hf γ, rfl, hm'⟩
        | ret => exact ⟨f γ, hf γ, rfl, hm'⟩
  exact wp_loop_rounds (μ k + 1) (key (μ k + 1) k a w (by omega) hk hm hN)

/-- A loop as a record, that hands k0 numbers on. -/
theorem Rec.ok_codeN {c : Code} (hmix : P.follows .mixedOrders = true) {ι : Type} (L : List Nat → ι → St) (Inv : ι → Prop) (μ : ι → Nat) (out : Out) (k0 : Nat) (post : List Nat → (Nat → Nat) → St) (ho : out ≠ .normal) (k : ι) (hk : Inv k)
    (hs : ∀ gl k, Inv k → StepN P w0 c (L gl) Inv μ out k0 (post gl) k) : Rec.OkF P w0 (.codeN c k0 (fun gl => L gl k) post out) := fun gl _ _ hm =>
  loop_wpN hmix (L gl) Inv μ out k0 (post gl) ho (hs gl) k hk hm rfl
end
end Go.Ex

namespace Go.Ex
open Go.RowKit

theorem run_val {P : Program} {s : Sem Value} {w w' : World} {v : Value} (h : s.run P w = .ok v w') : (do pure (Next.value (← s)) : Sem Next).run P w = .ok (.value v) w' := by
  rw [Sem.run_bind, h]
  rfl

section
variable {P : Program} {w0 : Frm}

/-- what is read, in slot d, of a block that is known -/
def ldF (d j : Nat) (e : Ent) (ty : TypeId) (off : Nat) (v : Value) : Rec := .fact d (fun _ => [(j, e)]) (fun _ => do pure (.value (← Instr.loadAt ty (.pointer (some ⟨e.g, off, none⟩))))) v
/-- an element's address, in slot d -/
def ixF (d : Nat) (t : TypeId) (b off len cap i at_ : Nat) : Rec := .fact d (fun _ => []) (fun _ => do pure (.value (← Instr.indexAt t (.slice (some ⟨b, off, none⟩) len cap) (.int .i64 (i : Int))))) (.pointer (some ⟨b, at_, none⟩))

theorem run_ix (t : TypeId) (e : TypeId) (b off len cap size i : Nat) (ht : P.underlying t = some (.slice e)) (hi : (P.info? e).map (·.size) = some size) (h : i < len) (w : World) :
    (Instr.indexAt t (.slice (some ⟨b, off, none⟩) len cap) (.int .i64 (i : Int))).run P w = .ok (.pointer (some ⟨b, off + i * size, none⟩)) w := by
  have he : P.elem t = e := by simp [Program.elem, ht]
  rw [run_indexAt_slice w t _ len cap .i64 (i : Int) (by rw [he]; exact ht), if_pos ⟨by omega, by omega⟩, he]
  cases hq : P.info? e with
  | none => simp [hq] at hi
  | some inf =>
    have hs : inf.size = size := by simpa [hq] using hi
    simp [sizeOf, typeInfo, hq, hs, Addr.add_mid]

theorem rangeAt_of {e : Ent} {w : World} (h : e.holds w) {off : Nat} {cs : List Value} (hc : ∀ j v, cs[j]? = some v → e.cs[off + j]? = some v) : w.rangeAt e.g off cs := fun j v hj => by
  rw [cell_of_holds h ⟨e.g, off + j, none⟩ rfl rfl]
  exact hc j v hj

theorem run_ld {e : Ent} {w : World} (h : e.holds w) {off : Nat} {cs : List Value} (hc : ∀ j v, cs[j]? = some v → e.cs[off + j]? = some v) {ty : TypeId} {d : TypeDesc} (hu : P.underlying ty = some d) (hd : d.isRow = true) (hi : (P.info? ty).map (·.size) = some cs.length) :
    (Instr.loadAt ty (.pointer (some ⟨e.g, off, none⟩))).run P w = .ok (.agg cs.toArray) w := run_loadAt_mid w e.g off ty cs d (rangeAt_of h hc) hu hd hi

theorem ldF_ok {d j : Nat} {e : Ent} {ty : TypeId} {off : Nat} {cs : List Value} {td : TypeDesc} (hc : ∀ k v, cs[k]? = some v → e.cs[off + k]? = some v) (hu : P.underlying ty = some td) (hd : td.isRow = true) (hi : (P.info? ty).map (·.size) = some cs.length) :
    (ldF d j e ty off (.agg cs.toArray)).OkF P w0 := fun _ _ _ hn => run_val (run_ld (hn _ List.mem_cons_self) hc hu hd hi)
theorem ixF_ok {d : Nat} {t e : TypeId} {b off len cap size i at_ : Nat} (ht : P.underlying t = some (.slice e)) (hi : (P.info? e).map (·.size) = some size) (h : i < len) (ha : at_ = off + i * size) : (ixF d t b off len cap i at_).OkF P w0 :=
  fun _ w _ _ => run_val (by rw [ha]; exact run_ix t e b off len cap size i ht hi h w)

/-- zero values in a row -/
def zs (z : Array Value) (n : Nat) : List Value := (Builtin.zeroCells z n).toList

theorem zs_len (z : Array Value) (n : Nat) : (zs z n).length = n * z.size := by unfold zs; rw [Array.length_toList, size_zeroCells]

theorem zs_drop (z : Array Value) (a b : Nat) : (zs z (a + b)).drop (a * z.size) = zs z b := by
  apply List.ext_getElem?
  intro i
  rw [List.getElem?_drop]
  unfold zs Builtin.zeroCells
  rw [Array.getElem?_toList, Array.getElem?_toList, Array.getElem?_map, Array.getElem?_map, Array.getElem?_range, Array.getElem?_range]
  have e : (a + b) * z.size = a * z.size + b * z.size := Nat.add_mul a b _
  by_cases hi : i < b * z.size
  · rw [if_pos (by omega), if_pos hi]
    simp only [Option.map_some]
    rw [Nat.add_comm, Nat.add_mul_mod_self_right]
  · rw [if_neg (by omega), if_neg hi]

/-- What is told of a slice's type: its elements'. -/
structure Elt (P : Program) (t e : TypeId) (size bytes : Nat) (z : Array Value) : Prop where
  t : P.underlying t = some (.slice e)
  i : (P.info? e).map (fun i => (i.zero.map (·.cells), i.size, i.bytes)) = some (some z, size, bytes)
  zs : z.size = size
  pos : 0 < size
  big : bytes ≤ 140737488355328

def apS (t ty : TypeId) (s x : Value) : Sem Next := do pure (.value (← Builtin.append_ #[t, t] ty #[s, x]))

/-- append to a row of the caller's own -/
def apF (d : Nat) (t ty e ex : TypeId) (z : Array Value) (j jx n m room : Nat) (xs news : List Value) : Rec :=
  .eff (some d) [] (fun σ => [(j, ⟨σ 0, xs ++ zs z room, [], e, true⟩), (jx, ⟨σ 1, news, [], ex, true⟩)])
    (fun σ => apS t ty (.slice (some ⟨σ 0, 0, none⟩) n (n + room)) (.slice (some ⟨σ 1, 0, none⟩) m m)) 2
    (fun _ δ => .slice (some ⟨δ 0, 0, none⟩) (n + m) (n + m + δ 1)) (fun _ δ => [(j, ⟨δ 0, xs ++ (news ++ zs z (δ 1)), [], e, true⟩)]) (fun _ _ => []) (.at_ j)

/-- append to nothing; x is operand number q; its block gives its place to the new one -/
def ap0 (d q : Nat) (t ty e ex : TypeId) (z : Array Value) (jx m : Nat) (news : List Value) : Rec :=
  .eff (some d) [] (fun σ => [(jx, ⟨σ q, news, [], ex, true⟩)])
    (fun σ => apS t ty (.slice none 0 0) (.slice (some ⟨σ q, 0, none⟩) m m)) 2
    (fun _ δ => .slice (some ⟨δ 0, 0, none⟩) m (m + δ 1)) (fun _ δ => [(jx, ⟨δ 0, news ++ zs z (δ 1), [], e, true⟩)]) (fun _ _ => []) (.at_ jx)

theorem setRow_size (w : World) (g : Nat) (c : Array Value) : (w.setRow g c).heap.size = w.heap.size := by simp [World.setRow]

theorem apF_ok {d : Nat} {t ty e ex : TypeId} {size bytes : Nat} {z : Array Value} (he : Elt P t e size bytes z) {j jx n m room : Nat} {xs news : List Value} (hj : j ≠ jx)
    (hx : xs.length = n * size) (hn : news.length = m * size) (h1 : ∀ u ∈ news, u.oneCell' = true) (hsm : n + m ≤ 1048576) (hb : (n + m) * bytes ≤ 140737488355328) : (apF d t ty e ex z j jx n m room xs news).OkF P w0 := by
  intro γ w _ hneed hdiff
  have hA := hneed _ (List.mem_cons_self)
  have hB := hneed _ (List.mem_cons_of_mem _ List.mem_cons_self)
  have hne := hdiff _ (List.mem_cons_self) _ (List.mem_cons_of_mem _ List.mem_cons_self) hj rfl
  dsimp only at hA hB hne
  cases hq : P.info? e with
  | none => have := he.i; simp [hq] at this
  | some i =>
    have hi := he.i
    rw [hq] at hi
    simp only [Option.map_some, Option.some.injEq, Prod.mk.injEq] at hi
    obtain ⟨hz, hs, hby⟩ := hi
    cases hzq : i.zero with
    | none => rw [hzq] at hz; cases hz
    | some z0 =>
      rw [hzq] at hz
      simp only [Option.map_some, Option.some.injEq] at hz
      have hl : news.length = m * i.size := by rw [hs]; exact hn
      have hnews : ∀ k u, news[k]? = some u → w.cell? ((⟨γ 1, 0, none⟩ : Addr).add k) = some u := fun k u hk => by
        rw [Addr.add_mid, Nat.zero_add]
        exact (cell_of_holds hB ⟨γ 1, k, none⟩ rfl rfl).trans hk
      have hw : w.heap[γ 0]? = some (.cells (xs ++ zs z room).toArray e (0, 0)) := by
        obtain ⟨fr, hw, hf⟩ := hA
        rw [hf rfl] at hw
        exact hw
      refine .inl ?_
      by_cases hr : m ≤ room
      · -- there is room
        have hfit : n * i.size + news.length ≤ (xs ++ zs z room).toArray.size := by
          rw [List.size_toArray, List.length_append, zs_len, hx, hn, hs, he.zs]
          exact Nat.add_le_add_left (Nat.mul_le_mul_right _ hr) _
        have hrun := run_append_room (P := P) w t ty e i he.t hq (γ 0) n (n + room) _ hw ⟨γ 1, 0, none⟩ m m news hl hnews h1 (by omega) hfit
        refine ⟨_, _, run_val hrun, fun q => if q = 0 then γ 0 else if q = 1 then room - m else 0, fun q hq => ?_, ?_, ?_⟩
        · dsimp only; rw [if_neg (by omega), if_neg (by omega)]
        · show Value.slice _ _ _ = Value.slice _ _ _
          congr 1
          dsimp only
          rw [if_neg (by decide), if_pos rfl]
          omega
        · have hcur : (List.take (n * i.size) (xs ++ zs z room) ++ news ++ List.drop (n * i.size + news.length) (xs ++ zs z room)) = xs ++ (news ++ zs z (room - m)) := by
            have e1 : n * i.size = xs.length := by rw [hs, hx]
            rw [e1, List.take_left, List.append_assoc, List.drop_append, Nat.add_sub_cancel_left, List.drop_eq_nil_of_le (by omega), List.nil_append, hn]
            have := zs_drop z m (room - m)
            rw [show m + (room - m) = room by omega, he.zs] at this
            rw [this]
          have hrow := setRow_heap w (γ 0) _ (List.take (n * i.size) (xs ++ zs z room) ++ news ++ List.drop (n * i.size + news.length) (xs ++ zs z room)).toArray e _ hw
          rw [hcur] at hrow ⊢
          refine ⟨rfl, rfl, rfl, by rw [setRow_size]; exact Nat.le_refl _, fun b hb' hf => setRow_other w _ b _ (fun hh => ?_), fun p hp => ?_, fun _ h => (by cases h), fun p hp q hq' hne' => ?_, fun _ _ _ h => (by cases h), List.Pairwise.nil⟩
          · exact hf _ (List.mem_cons_self) (by simp) hh.symm
          · simp only [List.mem_cons, List.not_mem_nil, or_false] at hp
            subst hp
            exact ⟨⟨(0, 0), hrow, fun _ => rfl⟩, _, List.mem_cons_self, rfl, .inl rfl⟩
          · simp only [List.mem_cons, List.not_mem_nil, or_false] at hp hq'
            subst hp hq'
            exact absurd rfl hne'
      · -- there is none
        have holds : ∀ k u, xs[k]? = some u → w.cell? ((⟨γ 0, 0, none⟩ : Addr).add k) = some u := fun k u hk => by
          rw [Addr.add_mid, Nat.zero_add]
          refine (cell_of_holds hA ⟨γ 0, k, none⟩ rfl rfl).trans ?_
          show (xs ++ zs z room)[k]? = some u
          rw [List.getElem?_append_left (lt_of_get hk)]
          exact hk
        have hrun := run_append_grow (P := P) w t ty e i z0 he.t hq hzq ⟨γ 0, 0, none⟩ n (n + room) xs (by rw [hs]; exact hx) holds ⟨γ 1, 0, none⟩ m m news hl hnews (by omega) (by omega) (by rw [hby]; exact growslice_fits (by omega) hb)
        have hge := grownCap_ge w (n + m) (n + room) e
        refine ⟨_, _, run_val hrun, fun q => if q = 0 then w.heap.size else if q = 1 then grownCap w (n + m) (n + room) e - (n + m) else 0, fun q hq => ?_, ?_, ?_⟩
        · dsimp only; rw [if_neg (by omega), if_neg (by omega)]
        · show Value.slice _ _ _ = Value.slice _ _ _
          congr 1
          dsimp only
          rw [if_neg (by decide), if_pos rfl]
          omega
        · refine ⟨rfl, rfl, rfl, by simp, fun b hb' hf => ?_, fun p hp => ?_, fun _ h => (by cases h), fun p hp q hq' hne' => ?_, fun _ _ _ h => (by cases h), List.Pairwise.nil⟩
          · exact heap_alloc_old w.drew _ hb'
          · simp only [List.mem_cons, List.not_mem_nil, or_false] at hp
            subst hp
            refine ⟨⟨(0, 0), ?_, fun _ => rfl⟩, _, List.mem_cons_self, rfl, .inr (Nat.le_refl _)⟩
            refine (heap_alloc_new w.drew _).trans ?_
            show some (Obj.cells _ _ _) = some (Obj.cells _ _ _)
            congr 2
            apply Array.ext'
            simp [zs, hz]
          · simp only [List.mem_cons, List.not_mem_nil, or_false] at hp hq'
            subst hp hq'
            exact absurd rfl hne'

theorem ap0_ok {d q : Nat} {t ty e ex : TypeId} {size bytes : Nat} {z : Array Value} (he : Elt P t e size bytes z) {jx m : Nat} {news : List Value} (hm : 0 < m)
    (hn : news.length = m * size) (hsm : m ≤ 1048576) (hb : m * bytes ≤ 140737488355328) : (ap0 d q t ty e ex z jx m news).OkF P w0 := by
  intro γ w _ hneed _
  have hB := hneed _ (List.mem_cons_self)
  dsimp only at hB
  cases hq : P.info? e with
  | none => have := he.i; simp [hq] at this
  | some i =>
    have hi := he.i
    rw [hq] at hi
    simp only [Option.map_some, Option.some.injEq, Prod.mk.injEq] at hi
    obtain ⟨hz, hs, hby⟩ := hi
    cases hzq : i.zero with
    | none => rw [hzq] at hz; cases hz
    | some z0 =>
      rw [hzq] at hz
      simp only [Option.map_some, Option.some.injEq] at hz
      have hl : news.length = m * i.size := by rw [hs]; exact hn
      have hnews : ∀ k u, news[k]? = some u → w.cell? ((⟨γ q, 0, none⟩ : Addr).add k) = some u := fun k u hk => by
        rw [Addr.add_mid, Nat.zero_add]
        exact (cell_of_holds hB ⟨γ q, k, none⟩ rfl rfl).trans hk
      refine .inl ?_
      have hrun := run_append_nil (P := P) w t ty e i z0 he.t hq hzq ⟨γ q, 0, none⟩ m m news hl hnews hm (by omega) (by rw [hby]; omega)
      have hge := grownCap_ge w m 0 e
      refine ⟨_, _, run_val hrun, fun q => if q = 0 then w.heap.size else if q = 1 then grownCap w m 0 e - m else 0, fun q hq => ?_, ?_, ?_⟩
      · dsimp only; rw [if_neg (by omega), if_neg (by omega)]
      · show Value.slice _ _ _ = Value.slice _ _ _
        congr 1
        dsimp only
        rw [if_neg (by decide), if_pos rfl]
        omega
      · refine ⟨rfl, rfl, rfl, by simp, fun b hb' hf => ?_, fun p hp => ?_, fun _ h => (by cases h), fun p hp q hq' hne' => ?_, fun _ _ _ h => (by cases h), List.Pairwise.nil⟩
        · exact heap_alloc_old w.drew _ hb'
        · simp only [List.mem_cons, List.not_mem_nil, or_false] at hp
          subst hp
          refine ⟨⟨(0, 0), ?_, fun _ => rfl⟩, _, List.mem_cons_self, rfl, .inr (Nat.le_refl _)⟩
          refine (heap_alloc_new w.drew _).trans ?_
          show some (Obj.cells _ _ _) = some (Obj.cells _ _ _)
          congr 2
          apply Array.ext'
          simp [zs, hz]
        · simp only [List.mem_cons, List.not_mem_nil, or_false] at hp hq'
          subst hp hq'
          exact absurd rfl hne'
end
end Go.Ex
