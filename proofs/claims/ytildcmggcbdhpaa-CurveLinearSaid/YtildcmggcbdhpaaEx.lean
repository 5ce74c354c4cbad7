/- A symbolic run of a function's code over named cells, and that it tells the truth of the model's run. No conditions. -/
import Derived.WalkKit
import Derived.Orders
namespace Go.Ex
open Go.RowKit

inductive Tag where
  | no
  | at_ (j : Nat)
  | tup (ts : List Tag)

/-- A block that is known whole. -/
structure Ent where
  g : Nat
  cs : List Value
  tg : List Tag
  t : TypeId
  own : Bool

/-- What must be equal. -/
inductive It where
  | nat (n : Nat)
  | val (v : Value)
  | vals (l : List Value)
  | sem (s : Sem Next)
  | ent (e : Option Ent)
  | oval (v : Option Value)
  | code (c : Code)

/-- The state of a run of one operation. -/
structure M where
  hp : List Ent
  n : Nat
  c : Nat
  E : List (It × It)
  rd : List Nat
  wr : List Nat

def arun {α : Type} (P : Program) (γ : Nat → Nat) (J : Nat → Option Nat) : Sem α → M → Option (α × M)
  | .pure a, m => some (a, m)
  | .program k, m => arun P γ J (k P) m
  | .mark _ k, m => arun P γ J k m
  | .load _ a k, m =>
    match J m.c with
    | none => none
    | some j =>
      match m.hp[j]? with
      | none => none
      | some e =>
        match a.spot, e.cs[a.off]? with
        | none, some v => arun P γ J (k v) { m with c := m.c + 1, E := (.nat a.block, .nat e.g) :: m.E, rd := j :: m.rd }
        | _, _ => none
  | .store _ a v k, m =>
    match v with
    | .agg _ => none
    | .tuple _ => none
    | v =>
      match J m.c with
      | none => none
      | some j =>
        match m.hp[j]? with
        | none => none
        | some e =>
          match a.spot, e.own, e.cs[a.off]? with
          | none, true, some _ => arun P γ J k { m with c := m.c + 1, hp := m.hp.set j { e with cs := e.cs.set a.off v }, E := (.nat a.block, .nat e.g) :: m.E, rd := j :: m.rd, wr := j :: m.wr }
          | _, _, _ => none
  | .new o k, m =>
    match o with
    | .cells c t (0, 0) => arun P γ J (k (γ m.n)) { m with hp := m.hp ++ [⟨γ m.n, c.toList, [], t, true⟩], n := m.n + 1, wr := m.hp.length :: m.wr }
    | _ => none
  | .shape r k, m =>
    match J m.c with
    | none => none
    | some j =>
      match m.hp[j]? with
      | none => none
      | some e => arun P γ J (k (some (e.t, e.cs.length))) { m with E := (.nat r, .nat e.g) :: m.E, rd := j :: m.rd }
  | .frozen a k, m =>
    match J m.c with
    | none => none
    | some j =>
      match m.hp[j]? with
      | none => none
      | some e => arun P γ J (k false) { m with E := (.nat a.block, .nat e.g) :: m.E, rd := j :: m.rd }
  | _, _ => none

structure St where
  fr : List (Option Value)
  tg : List Tag
  hp : List Ent

inductive Out where
  | normal
  | exit (id : Nat)
  | ret

/-- What is told from outside: a call and what it answers; an operation and what it answers. -/
inductive Rec where
  | call (f : FuncId) (args : (Nat → Nat) → List Value) (need : (Nat → Nat) → List (Nat × Ent)) (k : Nat) (val : (Nat → Nat) → Value) (news : (Nat → Nat) → List Ent) (tag : Tag)
  | fact (d : Nat) (need : (Nat → Nat) → List (Nat × Ent)) (s : (Nat → Nat) → Sem Next) (v : Value)
  | codeN (c : Code) (k : Nat) (pre : List Nat → St) (post : List Nat → (Nat → Nat) → St) (out : Out)
  | eff (d : Option Nat) (deep : List Nat) (need : (Nat → Nat) → List (Nat × Ent)) (s : (Nat → Nat) → Sem Next) (k : Nat) (val : (Nat → Nat) → (Nat → Nat) → Value) (upd : (Nat → Nat) → (Nat → Nat) → List (Nat × Ent)) (news : (Nat → Nat) → (Nat → Nat) → List Ent) (tag : Tag)

/-- A loop that makes nothing that is handed on. -/
abbrev Rec.code (c : Code) (pre post : List Nat → St) (out : Out) : Rec := .codeN c 0 pre (fun gl _ => post gl) out

/-- One operation's doing. -/
structure Actn where
  i : Nat
  rs : List (Nat × Value)
  ws : Option (Nat × Value)
  rh : List (Nat × Ent)
  wh : List (Nat × Ent)
  al : Nat × Nat
  rc : Nat

/-- The state within a region. -/
structure G where
  st : St
  n : Nat
  recs : List Rec
  E : List (It × It)
  acts : List Actn

def slot (fr : List (Option Value)) (t : Nat) : Option Value := (fr[t]?).bind id

def ev (fr : List (Option Value)) : Operand → Value
  | .tmp t => (slot fr t).getD undef
  | .const v => v
  | .global g => .pointer (some ⟨g, 0, none⟩)
  | .func f => .func (.func f) #[] #[]

def tmpsOf (o : Oper) : List Nat := o.op.operands.toList.filterMap fun | .tmp t => some t | _ => none

def readSlots (fr : List (Option Value)) : List Nat → Option (List (Nat × Value))
  | [] => some []
  | t :: ts => match slot fr t, readSlots fr ts with
    | some v, some l => some ((t, v) :: l)
    | _, _ => none

def readEnts (hp : List Ent) : List Nat → Option (List (Nat × Ent))
  | [] => some []
  | j :: js => match hp[j]?, readEnts hp js with
    | some e, some l => some ((j, e) :: l)
    | _, _ => none

/-- The block that the first operand with one points into. -/
def tagOf (tg : List Tag) : List Nat → Option Nat
  | [] => none
  | t :: ts => match tg[t]? with
    | some (.at_ j) => some j
    | _ => tagOf tg ts

def setSlot (fr : List (Option Value)) (d : Option Nat) (v : Value) : List (Option Value) :=
  match d with
  | none => fr
  | some d => fr.set d (some v)

def setTag (tg : List Tag) (d : Option Nat) (x : Tag) : List Tag :=
  match d with
  | none => tg
  | some d => tg.set d x

/-- A tag for what an operation yields: a guess that the equations check. -/
def outTag (o : Oper) (st : St) (len : Nat) : Tag :=
  match o.op with
  | .alloc _ | .box _ _ | .buildSlice _ _ _ | .makeSlice _ _ _ => .at_ len
  | .load _ _ =>
    match tagOf st.tg (tmpsOf o) with
    | some j => match st.hp[j]?, (tmpsOf o).head?.bind (slot st.fr) with
      | some e, some (.pointer (some a)) => (e.tg[a.off]?).getD .no
      | _, _ => .no
    | none => .no
  | .extract (.tmp t) i =>
    match st.tg[t]? with
    | some (.tup ts) => (ts[i]?).getD .no
    | _ => .no
  | _ => match tagOf st.tg (tmpsOf o) with
    | some j => .at_ j
    | none => .no

def finish (g : G) (o : Oper) (i : Nat) (rs : List (Nat × Value)) (v : Value) (tag : Tag) (hp : List Ent) (n : Nat) (recs : List Rec) (E : List (It × It)) (rh wh : List (Nat × Ent)) (rc : Nat) : G :=
  { st := { fr := setSlot g.st.fr o.dst v, tg := setTag g.st.tg o.dst tag, hp := hp }, n := n, recs := recs, E := E,
    acts := ⟨i, rs, o.dst.map (·, v), rh, wh, (g.n, n - g.n), rc⟩ :: g.acts }

/-- Is the operation wanted? none: not known. -/
def wants (ops : List Oper) (fr : List (Option Value)) (o : Oper) : Option (Bool × List Nat) :=
  match o.guard with
  | none => some (true, [])
  | some (j, want) =>
    match (ops[j]?).bind (·.dst) with
    | none => some (false, [])
    | some d => match slot fr d with
      | none => none
      | some (.bool b) => some (b == want, [d])
      | some _ => some (false, [d])

def dstOk : Option Nat → Nat → Bool
  | none, _ => true
  | some d, n => Nat.blt d n

def isSel : Op → Bool
  | .select _ _ => true
  | _ => false

def number : Nat → List Ent → List (Nat × Ent)
  | _, [] => []
  | n, e :: l => (n, e) :: number (n + 1) l

def eqs (need : List (Nat × Ent)) (hp : List Ent) : List (It × It) := need.map fun (j, e) => (.ent hp[j]?, .ent (some e))

/-- where the known blocks lie -/
def addr (hp : List Ent) (i : Nat) : Nat := match hp[i]? with
  | some e => e.g
  | none => 0

def run1 (P : Program) (γ : Nat → Nat) (o : Oper) (i : Nat) (rs : List (Nat × Value)) (g : G) : Option G :=
  let s := execOp (ev g.st.fr) o
  match arun P γ (fun _ => tagOf g.st.tg (tmpsOf o)) s ⟨g.st.hp, g.n, 0, g.E, [], []⟩ with
  | none => none
  | some (nx, m) =>
    match nx with
    | .value v =>
      match readEnts g.st.hp m.rd, readEnts m.hp m.wr with
      | some rh, some wh => some (finish g o i rs v (outTag o g.st g.st.hp.length) m.hp m.n g.recs m.E rh wh 0)
      | _, _ => none
    | .skip =>
      match readEnts g.st.hp m.rd, readEnts m.hp m.wr with
      | some rh, some wh => some (finish g o i rs undef .no m.hp m.n g.recs m.E rh wh 0)
      | _, _ => none
    | .enter f args =>
      match m.wr, m.rd, g.recs with
      | [], [], .call f' args' need k val news tag :: recs =>
        let δ := fun q => if q < k then γ (g.n + q) else 0
        let ns := news δ
        some (finish g o i rs (val δ) tag (g.st.hp ++ ns) (g.n + k) recs
          ((.nat f, .nat f') :: (.vals args.toList, .vals (args' (addr g.st.hp))) :: (eqs (need (addr g.st.hp)) g.st.hp ++ m.E)) (need (addr g.st.hp)) (number g.st.hp.length ns) (2 * g.recs.length + 2))
      | _, _, _ => none
    | _ => none

def setAll (hp : List Ent) : List (Nat × Ent) → List Ent
  | [] => hp
  | (j, e) :: l => (setAll hp l).set j e

/-- the block that a value leads to -/
def blk : Value → Nat
  | .pointer (some a) => a.block
  | .slice (some a) _ _ => a.block
  | .func _ first captured =>
    match (captured.toList ++ first.toList).head? with
    | some (Value.pointer (some a)) => a.block
    | _ => 0
  | _ => 0

/-- what of a value is asked: the block that it leads to, its capacity, where it begins -/
def kf (k : Nat) : Option Value → Nat
  | some (.slice a n c) => match k with
    | 0 => blk (.slice a n c)
    | 1 => c
    | _ => match a with
      | some a => a.off
      | none => 0
  | some v => match k with
    | 0 => blk v
    | _ => 0
  | none => 0

/-- the blocks of operands that are looked into -/
def deepEnts (st : St) (ts : List Nat) : List Nat → Option (List (Nat × Nat × Ent))
  | [] => some []
  | i :: l =>
    match (ts[i]?).bind fun t => st.tg[t]? with
    | some (.at_ j) =>
      match st.hp[j]?, deepEnts st ts l with
      | some e, some r => some ((i, j, e) :: r)
      | _, _ => none
    | _ => none

def opA (sl : Nat → Option Value) (ts : List Nat) (k i : Nat) : Nat := kf k ((ts[i]?).bind sl)

def deepB : List (Nat × Nat × Ent) → Nat → Nat → Nat → Nat
  | [], _, _, _ => 0
  | (i, _, e) :: l, q, k, c => if i = k then kf q e.cs[c]? else deepB l q k c

/-- where the operands lie, and what they lead to: number 10000 k + i: of operand i; 10000 k + 100 (i + 1) + c: of cell c of the block that operand i leads to -/
def opσ (sl : Nat → Option Value) (ts : List Nat) (ls : List (Nat × Nat × Ent)) (n : Nat) : Nat :=
  if n % 10000 < 100 then opA sl ts (n / 10000) (n % 10000) else deepB ls (n / 10000) (n % 10000 / 100 - 1) (n % 100)

def isCall : Op → Bool
  | .call _ => true
  | _ => false

def storeAt : Op → Option Nat
  | .store _ (.tmp a) _ => some a
  | _ => none

/-- Is this the operation that is told of? (100000 + a: the store to slot a's address) -/
def effAt (d : Option Nat) (o : Oper) : Bool :=
  match d with
  | some d => match o.dst with
    | some d' => d == d'
    | none => match storeAt o.op with
      | some a => d == 100000 + a
      | none => false
  | none => match o.dst with
    | some _ => false
    | none => isCall o.op

def step1 (P : Program) (γ : Nat → Nat) (ops : List Oper) (o : Oper) (i : Nat) (g : G) : Option G :=
  if isSel o.op || !dstOk o.dst g.st.fr.length then none else
  match wants ops g.st.fr o with
  | none => none
  | some (false, ds) =>
    match readSlots g.st.fr ds with
    | some rs => some (finish g o i rs undef .no g.st.hp g.n g.recs g.E [] [] 0)
    | none => none
  | some (true, ds) =>
    match readSlots g.st.fr (ds ++ tmpsOf o) with
    | none => none
    | some rs =>
      match g.recs with
      | .fact d need s v :: recs =>
        match o.dst with
        | some d' =>
          if d == d' then
            some (finish g o i rs v .no g.st.hp g.n recs ((.sem (execOp (ev g.st.fr) o), .sem (s (addr g.st.hp))) :: (eqs (need (addr g.st.hp)) g.st.hp ++ g.E)) (need (addr g.st.hp)) [] (2 * g.recs.length + 1))
          else run1 P γ o i rs g
        | none => run1 P γ o i rs g
      | .eff d deep need s k val upd news tag :: recs =>
        if effAt d o then
          match deepEnts g.st (tmpsOf o) deep with
          | none => none
          | some ls =>
            let σ := opσ (slot g.st.fr) (tmpsOf o) ls
            let δ := fun q => if q < k then γ (g.n + q) else 0
            let us := upd σ δ
            let ns := news σ δ
            if us.all (fun p => Nat.blt p.1 g.st.hp.length) then
              some (finish g o i rs (val σ δ) tag (setAll g.st.hp us ++ ns) (g.n + k) recs ((.sem (execOp (ev g.st.fr) o), .sem (s σ)) :: (ls.map (fun p => (.nat p.2.2.g, .nat (opA (slot g.st.fr) (tmpsOf o) 0 p.1))) ++ (eqs (need σ) g.st.hp ++ g.E)))
                (need σ ++ ls.map (fun p => (p.2.1, p.2.2))) (us ++ number g.st.hp.length ns) (2 * g.recs.length + 2))
            else none
        else run1 P γ o i rs g
      | _ => run1 P γ o i rs g

def stepsR (P : Program) (γ : Nat → Nat) (ops : List Oper) : List Oper → Nat → G → Option G
  | [], _, g => some g
  | o :: rest, i, g => match step1 P γ ops o i g with
    | none => none
    | some g' => stepsR P γ ops rest (i + 1) g'

/-- What must be the same whatever the numbers: the operation, its numbers, what it takes from outside. -/
def keyOf (a : Actn) : Nat × Nat × Nat × Nat := (a.i, a.al.1, a.al.2, a.rc)

def hits (l : List Nat) (m : List Nat) : Bool := l.any fun x => m.any fun y => x == y

/-- Neither of two operations touches what the other reads or writes. -/
def apart (a b : Actn) : Bool :=
  let wa := a.ws.toList.map (·.1)
  let wb := b.ws.toList.map (·.1)
  let ha := a.wh.map (·.1)
  let hb := b.wh.map (·.1)
  !hits wa (b.rs.map (·.1) ++ wb) && !hits wb (a.rs.map (·.1)) && !hits ha (b.rh.map (·.1) ++ hb) && !hits hb (a.rh.map (·.1))

/-- Each of two operations that no edge orders leaves the other alone (the list: the last first). -/
def freeB (ops : List Oper) : List Actn → Bool
  | [] => true
  | r :: l => (l.all fun b => apart b r || match ops[r.i]? with
      | some o => o.after.toList.any fun e => Region.binds .any e && e.on == b.i
      | none => false) && freeB ops l

/-- Edges that bind lead back. -/
def edgesOk (ops : List Oper) : Bool := ops.zipIdx.all fun (o, i) => o.after.toList.all fun e => !Region.binds .any e || Nat.blt e.on i

structure S where
  st : St
  gs : List Nat
  recs : List Rec
  E : List (It × It)

def region (P : Program) (ops : List Oper) (draw : Bool) (s : S) : Option S :=
  match stepsR P (fun _ => 0) ops ops 0 ⟨s.st, 0, s.recs, [], []⟩ with
  | none => none
  | some g0 =>
    if s.gs.length < g0.n then none else
    let δ := s.gs.take g0.n
    match stepsR P (fun i => δ.getD i 0) ops ops 0 ⟨s.st, 0, s.recs, s.E, []⟩ with
    | none => none
    | some g =>
      if (g.acts.map keyOf) == (g0.acts.map keyOf) && (!draw || (freeB ops g.acts && edgesOk ops)) then
        some { st := g.st, gs := s.gs.drop g0.n, recs := g.recs, E := g.E }
      else none

def iter (f : S → Option (Out × S)) : Nat → S → Option (Out × S)
  | 0, _ => none
  | n + 1, s => match f s with
    | some (.normal, s') => iter f n s'
    | r => r

/-- What must be equal where a state is as another says. -/
def chkSlots (fr : List (Option Value)) : Nat → List (Option Value) → List (It × It)
  | _, [] => []
  | t, none :: l => chkSlots fr (t + 1) l
  | t, some v :: l => (.oval (slot fr t), .oval (some v)) :: chkSlots fr (t + 1) l

def chk (want st : St) : List (It × It) := (.nat want.fr.length, .nat st.fr.length) :: (chkSlots st.fr 0 want.fr ++ eqs (number 0 want.hp) st.hp)

def exec (P : Program) : Code → S → Option (Out × S)
  | .skip, s => some (.normal, s)
  | .region _ ops draw, s => match region P ops.toList draw s with
    | some s' => some (.normal, s')
    | none => none
  | .seq a b, s => match exec P a s with
    | some (.normal, s') => exec P b s'
    | r => r
  | .cond c a b, s => match ev s.st.fr c with
    | .bool true => exec P a s
    | .bool false => exec P b s
    | _ => none
  | .block id c, s => match exec P c s with
    | some (.exit i, s') => if i == id then some (.normal, s') else some (.exit i, s')
    | r => r
  | .loop c, s =>
    match s.recs with
    | .codeN c' k pre post out :: recs =>
      if s.gs.length < k then none else
      let gl := s.st.hp.map fun e => e.g
      let p := post gl (fun q => (s.gs.take k).getD q 0)
      some (out, ⟨p, s.gs.drop k, recs, (.code c, .code c') :: (.nat p.fr.length, .nat s.st.fr.length) :: (chk (pre gl) s.st ++ s.E)⟩)
    | _ => iter (exec P c) 1000 s
  | .exit id, s => some (.exit id, s)
  | .ret, s => some (.ret, s)
  | _, _ => none

end Go.Ex
