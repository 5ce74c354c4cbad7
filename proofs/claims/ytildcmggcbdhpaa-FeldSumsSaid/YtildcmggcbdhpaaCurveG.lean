/- Package curve: the sum of numbers times points. No conditions but that numbers are below R, and that the slices' numbers and points stand where their values say. -/
import Derived.Test.YtildcmggcbdhpaaCurveD
import Derived.Test.YtildcmggcbdhpaaCurveF
namespace Go.Proofs.Ytildcmggcbdhpaa
open Go.Ex Go.RowKit Lim
set_option maxRecDepth 100000

/-- a call, of what the caller's operands lead to -/
def ec (d : Option Nat) (deep : List Nat) (f : FuncId) (args : (Nat → Nat) → List Value) (need : (Nat → Nat) → List (Nat × Ent)) (v : Value) : Rec :=
  .eff d deep need (fun σ => callFunc f (args σ).toArray) 0 (fun _ _ => v) (fun _ _ => []) (fun _ _ => []) .no
theorem enter_run {f : FuncId} {fn : Func} (hf : Try.prog.funcs[f]? = some fn) (hn : (fn.name == "runtime.NumGoroutine") = false) (hb : fn.body = some (Fx fn)) (args : Array Value) (w : World) : (callFunc f args).run Try.prog w = .ok (.enter f args) w := by
  have h1 : fn.name ≠ "runtime.NumGoroutine" := by simpa using hn
  simp [callFunc, hf, h1, hb]
theorem Done.of_below {w w' : World} (h : Below w.heap.size w w') (need : List (Nat × Ent)) : Done w w' need [] [] :=
  ⟨h.os, h.tape, h.output, h.size, fun b hb _ => h.block b hb, fun _ h => (by cases h), fun _ h => (by cases h), fun _ h => (by cases h), fun _ h => (by cases h), List.Pairwise.nil⟩
theorem ec_ok {w0 : World} {d : Option Nat} {deep : List Nat} {f : FuncId} {fn : Func} {args : (Nat → Nat) → List Value} {need : (Nat → Nat) → List (Nat × Ent)} {v : Value} (hf : Try.prog.funcs[f]? = some fn) (hn : (fn.name == "runtime.NumGoroutine") = false) (hb : fn.body = some (Fx fn))
    (h : ∀ σ, PureAt ((need σ).map (·.2)) f (args σ) v) : (ec d deep f args need v).Ok Try.prog w0 := by
  intro σ w _ hneed _
  refine .inr (.inr ⟨f, _, enter_run hf hn hb _ w, ?_⟩)
  refine (h σ w (fun e he => ?_)).mono ?_
  · rw [List.mem_map] at he
    obtain ⟨p, hp, rfl⟩ := he
    exact hneed p hp
  · rintro e w' ⟨rfl, hw⟩
    exact ⟨v, rfl, fun _ => 0, fun _ _ => rfl, rfl, Done.of_below hw _⟩

/-- a point, as it is written -/
structure W9 where
  x : Nat
  y : Nat
  inf : Bool
def W9.l (p : W9) : List Value := [U (l0 p.x), U (l1 p.x), U (l2 p.x), U (l3 p.x), U (l0 p.y), U (l1 p.y), U (l2 p.y), U (l3 p.y), .bool p.inf]
def W9.j (p : W9) : J := jIn p.x p.y p.inf
def W9.lt (p : W9) : Prop := p.x < R ∧ p.y < R
theorem W9.v (p : W9) : PV p.x p.y p.inf = .agg p.l.toArray := rfl

structure SmA where
  kg : Nat
  kc : List Value
  kt : TypeId
  pg : Nat
  pc : List Value
  pt : TypeId
def SmA.k (a : SmA) : Ent := xE a.kg a.kc a.kt
def SmA.p (a : SmA) : Ent := xE a.pg a.pc a.pt

def z12 : Array Value := #[.int .u64 0, .int .u64 0, .int .u64 0, .int .u64 0, .int .u64 0, .int .u64 0, .int .u64 0, .int .u64 0, .int .u64 0, .int .u64 0, .int .u64 0, .int .u64 0]
theorem elt108 : Elt Try.prog 108 96 12 96 z12 := ⟨sl108, by kernel_rfl, rfl, by decide, by decide⟩

def inE (g : Nat) (xs : List Value) (room : Nat) : Ent := ⟨g, xs ++ zs z12 room, [], 96, true⟩
def ptE (g x y : Nat) (inf : Bool) : Ent := ⟨g, (⟨x, y, inf⟩ : W9).l, [], 26, true⟩

noncomputable def smL : Code := (loopsOf (Fx Try.f24)).getD 0 .skip

def smS (a : SmA) (kv pv : Value) (n : Nat) (gl : List Nat) (i : Nat) (inv : Value) (more : List Ent) : St :=
  ⟨frOf 65 [(0, kv), (1, pv), (4, PT (gl.getD 2 0)), (6, PT (gl.getD 4 0)), (7, PT (gl.getD 6 0)), (8, inv), (26, I (n : Nat)), (27, I (i : Nat))],
    tgOf 65 [(0, .at_ 0), (1, .at_ 1), (4, .at_ 2), (6, .at_ 4), (7, .at_ 6), (8, .at_ 7)],
    [a.k, a.p, ptE (gl.getD 2 0) 0 0 false, montO (gl.getD 3 0) Q Q2 Qi, fieldE (gl.getD 4 0) (gl.getD 3 0) Q 0 [] true, montO (gl.getD 5 0) P P2 Pi, planeE (gl.getD 6 0) (gl.getD 5 0) [] true] ++ more⟩
def smE (a : SmA) (gl : List Nat) (e : Nat) : St :=
  ⟨frOf 65 [(4, PT (gl.getD 2 0)), (5, I (e : Nat))], tgOf 65 [(4, .at_ 2)], [a.k, a.p, ptE (gl.getD 2 0) 0 0 false]⟩

def qc (j k e : Nat) : Rec := lc 68 (fun σ => [PT (σ (j + 1)), NV k]) (fun σ => [(j, montO (σ j) Q Q2 Qi), (j + 1, fieldE (σ (j + 1)) (σ j) Q 0 [] true)]) (I (e : Nat))
def smHead (a : SmA) (ko kc n i k e : Nat) : List Rec := [rn 28 (lsX i n) (.bool true), ixF 33 39 a.kg ko n kc i (ko + i * 4), ldF 34 0 a.k 24 (ko + i * 4) (NV k), qc 3 k e]
def smMid (a : SmA) (po pc n i : Nat) (p : W9) (e : Nat) : List Rec := [ixF 42 40 a.pg po n pc i (po + i * 9), ldF 43 1 a.p 26 (po + i * 9) (PV p.x p.y p.inf), pc' p e]
where pc' (p : W9) (e : Nat) : Rec := Go.Proofs.Ytildcmggcbdhpaa.pc 21 [PV p.x p.y p.inf] (I (e : Nat))
def smAdd (a : SmA) (po pc n i : Nat) (p : W9) (j : J) : List Rec := [ixF 53 40 a.pg po n pc i (po + i * 9), ldF 54 1 a.p 26 (po + i * 9) (PV p.x p.y p.inf), loc 59 5 [PV p.x p.y p.inf] (JV j.x j.y j.z)]

theorem sm_go0 (a : SmA) (ko kc po pc n k : Nat) (p : W9) (j : J) (gl : List Nat) (γ : Nat → Nat) :
    endL (smS a (SL a.kg ko n kc) (SL a.pg po n pc) n gl 1 (SL (γ 1) 0 1 (1 + γ 2)) [inE (γ 1) (jl j) (γ 2)]) (exec Try.prog smL ⟨smS a (SL a.kg ko n kc) (SL a.pg po n pc) n gl 0 (.slice none 0 0) [], (List.range 8).map γ, smHead a ko kc n 0 k 0 ++ (smMid a po pc n 0 p 0 ++ (smAdd a po pc n 0 p j ++ [ap0 57 1 108 108 96 96 z12 7 1 (jl j), rn 58 (adX 0) (I 1)])), []⟩) =
      endR .normal (smS a (SL a.kg ko n kc) (SL a.pg po n pc) n gl 1 (SL (γ 1) 0 1 (1 + γ 2)) [inE (γ 1) (jl j) (γ 2)]) (exec Try.prog smL ⟨smS a (SL a.kg ko n kc) (SL a.pg po n pc) n gl 0 (.slice none 0 0) [], (List.range 8).map γ, smHead a ko kc n 0 k 0 ++ (smMid a po pc n 0 p 0 ++ (smAdd a po pc n 0 p j ++ [ap0 57 1 108 108 96 96 z12 7 1 (jl j), rn 58 (adX 0) (I 1)])), []⟩) := by kernel_rfl

def smTail (a : SmA) (po pc n i room : Nat) (xs : List Value) (p : W9) (j : J) : List Rec := smAdd a po pc n i p j ++ [apF 57 108 108 96 96 z12 7 8 i 1 room xs (jl j), rn 58 (adX i) (I (i + 1 : Nat))]
theorem sm_go (a : SmA) (ko kc po pc n i room g k : Nat) (xs : List Value) (p : W9) (j : J) (gl : List Nat) (γ : Nat → Nat) :
    endL (smS a (SL a.kg ko n kc) (SL a.pg po n pc) n gl (i + 1) (SL (γ 1) 0 (i + 1) (i + 1 + γ 2)) [⟨γ 1, xs ++ (jl j ++ zs z12 (γ 2)), [], 96, true⟩]) (exec Try.prog smL ⟨smS a (SL a.kg ko n kc) (SL a.pg po n pc) n gl i (SL g 0 i (i + room)) [inE g xs room], (List.range 8).map γ, smHead a ko kc n i k 0 ++ (smMid a po pc n i p 0 ++ smTail a po pc n i room xs p j), []⟩) =
      endR .normal (smS a (SL a.kg ko n kc) (SL a.pg po n pc) n gl (i + 1) (SL (γ 1) 0 (i + 1) (i + 1 + γ 2)) [⟨γ 1, xs ++ (jl j ++ zs z12 (γ 2)), [], 96, true⟩]) (exec Try.prog smL ⟨smS a (SL a.kg ko n kc) (SL a.pg po n pc) n gl i (SL g 0 i (i + room)) [inE g xs room], (List.range 8).map γ, smHead a ko kc n i k 0 ++ (smMid a po pc n i p 0 ++ smTail a po pc n i room xs p j), []⟩) := by kernel_rfl
theorem sm_out (a : SmA) (kv pv inv : Value) (n i : Nat) (e : Ent) (gl : List Nat) (γ : Nat → Nat) :
    endL (smS a kv pv n gl i inv [e]) (exec Try.prog smL ⟨smS a kv pv n gl i inv [e], (List.range 8).map γ, [rn 28 (lsX i n) (.bool false)], []⟩) =
      endR (.exit 0) (smS a kv pv n gl i inv [e]) (exec Try.prog smL ⟨smS a kv pv n gl i inv [e], (List.range 8).map γ, [rn 28 (lsX i n) (.bool false)], []⟩) := by kernel_rfl
theorem sm_bad1 (a : SmA) (ko kc : Nat) (pv inv : Value) (n i k : Nat) (more : List Ent) (gl : List Nat) (γ : Nat → Nat) :
    endL (smE a gl 20) (exec Try.prog smL ⟨smS a (SL a.kg ko n kc) pv n gl i inv more, (List.range 8).map γ, smHead a ko kc n i k 20, []⟩) =
      endR .ret (smE a gl 20) (exec Try.prog smL ⟨smS a (SL a.kg ko n kc) pv n gl i inv more, (List.range 8).map γ, smHead a ko kc n i k 20, []⟩) := by kernel_rfl
theorem sm_bad2 (a : SmA) (ko kc po pc : Nat) (inv : Value) (n i k : Nat) (p : W9) (more : List Ent) (gl : List Nat) (γ : Nat → Nat) :
    endL (smE a gl 30) (exec Try.prog smL ⟨smS a (SL a.kg ko n kc) (SL a.pg po n pc) n gl i inv more, (List.range 8).map γ, smHead a ko kc n i k 0 ++ smMid a po pc n i p 30, []⟩) =
      endR .ret (smE a gl 30) (exec Try.prog smL ⟨smS a (SL a.kg ko n kc) (SL a.pg po n pc) n gl i inv more, (List.range 8).map γ, smHead a ko kc n i k 0 ++ smMid a po pc n i p 30, []⟩) := by kernel_rfl

def nqX (n m : Nat) : Value := .bool (!((n : Int) == (m : Int)))
theorem nqX_false (n : Nat) : nqX n n = .bool false := by unfold nqX; simp
theorem nqX_true {n m : Nat} (h : n ≠ m) : nqX n m = .bool true := by unfold nqX; simp; omega
def grX (n m : Nat) : Value := .bool (decide ((n : Int) > (m : Int)))
theorem grX_false {n m : Nat} (h : n ≤ m) : grX n m = .bool false := by unfold grX; rw [decide_eq_false (by omega)]
theorem grX_true {n m : Nat} (h : m < n) : grX n m = .bool true := by unfold grX; rw [decide_eq_true (by omega)]

def jcs (l : List (Nat × W9)) : List Value := l.flatMap fun q => jl q.2.j

noncomputable def smRec (a : SmA) (kv pv : Value) (l : List (Nat × W9)) : Rec :=
  .codeN smL 2 (fun gl => smS a kv pv l.length gl 0 (.slice none 0 0) []) (fun gl δ => smS a kv pv l.length gl l.length (SL (δ 0) 0 l.length (δ 1)) [inE (δ 0) (jcs l) (δ 1 - l.length)]) (.exit 0)
def ladC (a : SmA) (kv : Value) (xs : List Value) (n : Nat) (v : J) : Rec :=
  ec (some 63) [0] 73 (fun σ => [PT (σ 0), FU 74, FU 58, kv, SL (σ 2) 0 n (σ 10002)])
    (fun σ => [(5, montO (σ 100) P P2 Pi), (6, planeE (σ 0) (σ 100) [] true), (0, a.k), (7, inE (σ 2) xs (σ 10002 - n))]) (JV v.x v.y v.z)
noncomputable def f24Recs (a : SmA) (kv pv : Value) (l : List (Nat × W9)) (v : J) (S : Value) : List Rec :=
  [rn 16 (nqX l.length l.length) (.bool false), rn 20 (grX l.length 64) (.bool false), nc 29 [] 2 twoV scalN (.at_ 4), plc 5, smRec a kv pv l, ladC a kv (jcs l) l.length v, loc 57 5 [JV v.x v.y v.z] S]
theorem f24_raw (a : SmA) (ka pa : Option Addr) (kc pc : Nat) (l : List (Nat × W9)) (v : J) (x y : Nat) (inf : Bool) (γ : Nat → Nat) :
    outL Try.prog Try.f24.results.toList [] (exec Try.prog (Fx Try.f24) ⟨Ex.start Try.f24.ntmps [(.slice ka l.length kc, .at_ 0), (.slice pa l.length pc, .at_ 1)] [a.k, a.p], (List.range 8).map γ, f24Recs a (.slice ka l.length kc) (.slice pa l.length pc) l v (PV x y inf), []⟩) =
      outR Try.prog Try.f24.results.toList [] (.tuple #[PV x y inf, I 0]) (exec Try.prog (Fx Try.f24) ⟨Ex.start Try.f24.ntmps [(.slice ka l.length kc, .at_ 0), (.slice pa l.length pc, .at_ 1)] [a.k, a.p], (List.range 8).map γ, f24Recs a (.slice ka l.length kc) (.slice pa l.length pc) l v (PV x y inf), []⟩) := by kernel_rfl


/-- numbers and points stand in blocks -/
structure SmH (a : SmA) (l : List (Nat × W9)) (ka : Option Addr) (ko : Nat) (pa : Option Addr) (po : Nat) : Prop where
  k : 0 < l.length → ka = some ⟨a.kg, ko, none⟩
  p : 0 < l.length → pa = some ⟨a.pg, po, none⟩
  kc : ∀ i q, l[i]? = some q → ∀ j v, (nl q.1)[j]? = some v → a.kc[ko + i * 4 + j]? = some v
  pc : ∀ i q, l[i]? = some q → ∀ j v, (W9.l q.2)[j]? = some v → a.pc[po + i * 9 + j]? = some v
  lt : ∀ q ∈ l, q.1 < R ∧ q.2.lt
  n : l.length ≤ 64
def good (q : Nat × W9) : Prop := q.1 < Q ∧ isPt q.2.x q.2.y q.2.inf = true

theorem sl40 : Try.prog.underlying 40 = some (.slice 26) := by kernel_rfl
theorem sz26 : (Try.prog.info? 26).map (·.size) = some 9 := by kernel_rfl
theorem un26 : ∃ d, Try.prog.underlying 26 = some d ∧ d.isRow = true := ⟨.struct (Try.prog.fieldsOf 26), by kernel_rfl, rfl⟩
theorem ldP_ok {w0 : World} {d j : Nat} {e : Ent} {off : Nat} {p : W9} (h : ∀ i v, (W9.l p)[i]? = some v → e.cs[off + i]? = some v) : (ldF d j e 26 off (PV p.x p.y p.inf)).Ok Try.prog w0 := by
  obtain ⟨td, h1, h2⟩ := un26
  rw [W9.v]
  exact ldF_ok h h1 h2 (by rw [sz26]; rfl)
theorem qown {g h : Nat} {f : FuncId} {args : List Value} {v : Value} (hp : PureAt (fN g h Q Q2 Qi 0) f args v) : PureAt [montO h Q Q2 Qi, fieldE g h Q 0 [] true] f args v := hp.of fun w hw e he => by
  simp only [fN, List.mem_cons, List.not_mem_nil, or_false] at he
  rcases he with rfl | rfl
  · exact (hw (fieldE g h Q 0 [] true) (by simp)).weak rfl rfl rfl rfl
  · exact (hw (montO h Q Q2 Qi) (by simp)).weak rfl rfl rfl rfl
theorem Q_R : Q < R := by decide
theorem qc_in {w : World} {j k : Nat} (h : k < Q) : (qc j k 0).Ok Try.prog w := lc_ok fun σ => qown (g := σ (j + 1)) (h := σ j) (f68_in Q_R h)
theorem qc_out {w : World} {j k : Nat} (h : Q ≤ k) (hR : k < R) : (qc j k 20).Ok Try.prog w := lc_ok fun σ => qown (g := σ (j + 1)) (h := σ j) (f68_out Q_R h hR)

section
variable {a : SmA} {l : List (Nat × W9)} {ko po kc pc : Nat} {w0 : World}
theorem smHead_ok (H : SmH a l (some ⟨a.kg, ko, none⟩) ko (some ⟨a.pg, po, none⟩) po) {i : Nat} {q : Nat × W9} (hq : l[i]? = some q) {e : Nat} (he : (qc 3 q.1 e).Ok Try.prog w0) : RecsOk w0 (smHead a ko kc l.length i q.1 e) :=
  ⟨rn_ok (lsX_true (lt_of_get hq)), ixF_ok sl39 sz24 (lt_of_get hq) rfl, ldN_ok (H.kc i q hq), he, trivial⟩
theorem smMid_ok (H : SmH a l (some ⟨a.kg, ko, none⟩) ko (some ⟨a.pg, po, none⟩) po) {i : Nat} {q : Nat × W9} (hq : l[i]? = some q) {e : Nat} (he : Pure 21 [PV q.2.x q.2.y q.2.inf] (I (e : Nat))) : RecsOk w0 (smMid a po pc l.length i q.2 e) :=
  ⟨ixF_ok sl40 sz26 (lt_of_get hq) rfl, ldP_ok (H.pc i q hq), pc_ok he, trivial⟩
theorem smAdd_ok (H : SmH a l (some ⟨a.kg, ko, none⟩) ko (some ⟨a.pg, po, none⟩) po) {i : Nat} {q : Nat × W9} (hq : l[i]? = some q) (hg : isPt q.2.x q.2.y q.2.inf = true) : RecsOk w0 (smAdd a po pc l.length i q.2 q.2.j) :=
  ⟨ixF_ok sl40 sz26 (lt_of_get hq) rfl, ldP_ok (H.pc i q hq), loc_ok fun _ _ => f59_ok (valid_lt hg).1 (valid_lt hg).2, trivial⟩

theorem jl_len (j : J) : (jl j).length = 12 := rfl
theorem jcs_len : ∀ l : List (Nat × W9), (jcs l).length = l.length * 12
  | [] => rfl
  | q :: l => by
    show (jl q.2.j ++ jcs l).length = _
    rw [List.length_append, jl_len, jcs_len l, List.length_cons]
    omega
theorem jcs_take {l : List (Nat × W9)} {i : Nat} {q : Nat × W9} (hq : l[i]? = some q) : jcs (l.take (i + 1)) = jcs (l.take i) ++ jl q.2.j := by
  rw [List.take_add_one, hq]
  unfold jcs
  rw [List.flatMap_append]
  simp
theorem one_U {l : List Value} (h : l.all (·.oneCell') = true) : ∀ u ∈ l, u.oneCell' = true := by simpa using h
theorem jl_one (j : J) : ∀ u ∈ jl j, u.oneCell' = true := one_U rfl

/-- the loop's head -/
def smL_ (a : SmA) (l : List (Nat × W9)) (kv pv : Value) (gl : List Nat) : Nat × Nat × Nat → St
  | (0, _, _) => smS a kv pv l.length gl 0 (.slice none 0 0) []
  | (i + 1, g, room) => smS a kv pv l.length gl (i + 1) (SL g 0 (i + 1) (i + 1 + room)) [inE g (jcs (l.take (i + 1))) room]

/-- a round that goes on -/
theorem sm_next (H : SmH a l (some ⟨a.kg, ko, none⟩) ko (some ⟨a.pg, po, none⟩) po) {i : Nat} {q : Nat × W9} (hq : l[i]? = some q) (hg : good q) (g room : Nat) (gl : List Nat) :
    ∃ (k' : (Nat → Nat) → Nat × Nat × Nat) (recs : List Rec), (∀ γ, (k' γ).1 = i + 1) ∧ RecsOk w0 recs ∧ ∀ γ : Nat → Nat,
      endL (smL_ a l (SL a.kg ko l.length kc) (SL a.pg po l.length pc) gl (k' γ)) (exec Try.prog smL ⟨smL_ a l (SL a.kg ko l.length kc) (SL a.pg po l.length pc) gl (i, g, room), (List.range 8).map γ, recs, []⟩) =
        endR .normal (smL_ a l (SL a.kg ko l.length kc) (SL a.pg po l.length pc) gl (k' γ)) (exec Try.prog smL ⟨smL_ a l (SL a.kg ko l.length kc) (SL a.pg po l.length pc) gl (i, g, room), (List.range 8).map γ, recs, []⟩) := by
  have hn := H.n
  have hlt := lt_of_get hq
  have h21 := f21_yes hg.2
  have hA := smHead_ok (w0 := w0) (kc := kc) H hq (qc_in hg.1)
  have hB := smMid_ok (w0 := w0) (pc := pc) (e := 0) H hq h21
  have hC := smAdd_ok (w0 := w0) (pc := pc) H hq hg.2
  have ht := jcs_take hq
  cases i with
  | zero =>
    refine ⟨fun γ => (1, γ 1, γ 2), smHead a ko kc l.length 0 q.1 0 ++ (smMid a po pc l.length 0 q.2 0 ++ (smAdd a po pc l.length 0 q.2 q.2.j ++ [ap0 57 1 108 108 96 96 z12 7 1 (jl q.2.j), rn 58 (adX 0) (I 1)])), fun _ => rfl, ?_, fun γ => ?_⟩
    · exact hA.append (hB.append (hC.append ⟨ap0_ok elt108 (by decide) rfl (by decide) (by decide), rn_ok rfl, trivial⟩))
    · have e : jcs (l.take 1) = jl q.2.j := by rw [ht]; rfl
      show endL (smS a _ _ l.length gl 1 _ [inE (γ 1) (jcs (l.take 1)) (γ 2)]) _ = endR .normal (smS a _ _ l.length gl 1 _ [inE (γ 1) (jcs (l.take 1)) (γ 2)]) _
      rw [e]
      exact sm_go0 a ko kc po pc l.length q.1 q.2 q.2.j gl γ
  | succ i =>
    refine ⟨fun γ => (i + 2, γ 1, γ 2), smHead a ko kc l.length (i + 1) q.1 0 ++ (smMid a po pc l.length (i + 1) q.2 0 ++ smTail a po pc l.length (i + 1) room (jcs (l.take (i + 1))) q.2 q.2.j), fun _ => rfl, ?_, fun γ => ?_⟩
    · have hxl : (jcs (l.take (i + 1))).length = (i + 1) * 12 := by rw [jcs_len, List.length_take]; congr 1; omega
      have hT : RecsOk w0 [apF 57 108 108 96 96 z12 7 8 (i + 1) 1 room (jcs (l.take (i + 1))) (jl q.2.j), rn 58 (adX (i + 1)) (I (i + 1 + 1 : Nat))] :=
        ⟨apF_ok elt108 (by decide) hxl rfl (jl_one _) (by omega) (by omega), rn_ok (adX_eq (by omega)), trivial⟩
      exact hA.append (hB.append (hC.append hT))
    · show endL (smS a _ _ l.length gl (i + 2) _ [⟨γ 1, jcs (l.take (i + 2)) ++ zs z12 (γ 2), [], 96, true⟩]) _ = endR .normal (smS a _ _ l.length gl (i + 2) _ [⟨γ 1, jcs (l.take (i + 2)) ++ zs z12 (γ 2), [], 96, true⟩]) _
      rw [ht, List.append_assoc]
      exact sm_go a ko kc po pc l.length (i + 1) room g q.1 (jcs (l.take (i + 1))) q.2 q.2.j gl γ

theorem smRec_ok (H : SmH a l (some ⟨a.kg, ko, none⟩) ko (some ⟨a.pg, po, none⟩) po) (hg : ∀ q ∈ l, good q) (h0 : 0 < l.length) : (smRec a (SL a.kg ko l.length kc) (SL a.pg po l.length pc) l).Ok Try.prog w0 := by
  refine Rec.ok_codeN follows (smL_ a l (SL a.kg ko l.length kc) (SL a.pg po l.length pc)) (fun k => k.1 ≤ l.length) (fun k => l.length - k.1) (.exit 0) 2
    (fun gl δ => smS a (SL a.kg ko l.length kc) (SL a.pg po l.length pc) l.length gl l.length (SL (δ 0) 0 l.length (δ 1)) [inE (δ 0) (jcs l) (δ 1 - l.length)]) (fun h => by cases h) (0, 0, 0) (Nat.zero_le _) (fun gl k hk => ?_)
  obtain ⟨i, g, room⟩ := k
  have hk' : i ≤ l.length := hk
  by_cases hlt : i < l.length
  · obtain ⟨q, hq⟩ : ∃ q, l[i]? = some q := ⟨_, List.getElem?_eq_getElem hlt⟩
    obtain ⟨k', recs, h1, h2, h3⟩ := sm_next (kc := kc) (pc := pc) (w0 := w0) H hq (hg q (List.mem_of_getElem? hq)) g room gl
    exact .go k' (fun γ => by rw [h1]; omega) (fun γ => by rw [h1]; show l.length - (i + 1) < l.length - i; omega) 8 recs h2.all h3
  · have e : i = l.length := by omega
    cases i with
    | zero => omega
    | succ i =>
      refine .stop (fun _ q => if q = 0 then g else if q = 1 then i + 1 + room else 0) (fun _ q hq => by rw [if_neg (by omega), if_neg (by omega)]) 8 [rn 28 (lsX (i + 1) l.length) (.bool false)] (RecsOk.all ⟨rn_ok (lsX_false (by omega)), trivial⟩) (fun γ => ?_)
      have et : l.take (i + 1) = l := List.take_of_length_le (by omega)
      show endL (smS a _ _ l.length gl l.length (SL g 0 l.length (i + 1 + room)) [inE g (jcs l) (i + 1 + room - l.length)]) (exec Try.prog smL ⟨smS a _ _ l.length gl (i + 1) (SL g 0 (i + 1) (i + 1 + room)) [inE g (jcs (l.take (i + 1))) room], _, _, _⟩) = endR (.exit 0) (smS a _ _ l.length gl l.length (SL g 0 l.length (i + 1 + room)) [inE g (jcs l) (i + 1 + room - l.length)]) (exec Try.prog smL ⟨smS a _ _ l.length gl (i + 1) (SL g 0 (i + 1) (i + 1 + room)) [inE g (jcs (l.take (i + 1))) room], _, _, _⟩)
      rw [et, ← e, Nat.add_sub_cancel_left]
      exact sm_out a _ _ _ (i + 1) (i + 1) _ gl γ

/-- the first that is wrong -/
def badAt (l : List (Nat × W9)) (i e : Nat) : Prop := (∀ j q, j < i → l[j]? = some q → good q) ∧ ∃ q, l[i]? = some q ∧ (Q ≤ q.1 ∧ e = 20 ∨ q.1 < Q ∧ isPt q.2.x q.2.y q.2.inf = false ∧ e = 30)
noncomputable def smBad (a : SmA) (kv pv : Value) (l : List (Nat × W9)) (e : Nat) : Rec :=
  .codeN smL 0 (fun gl => smS a kv pv l.length gl 0 (.slice none 0 0) []) (fun gl _ => smE a gl e) .ret
theorem smBad_ok (H : SmH a l (some ⟨a.kg, ko, none⟩) ko (some ⟨a.pg, po, none⟩) po) {i0 e : Nat} (hb : badAt l i0 e) : (smBad a (SL a.kg ko l.length kc) (SL a.pg po l.length pc) l e).Ok Try.prog w0 := by
  obtain ⟨hg, q0, hq0, hbad⟩ := hb
  refine Rec.ok_codeN follows (smL_ a l (SL a.kg ko l.length kc) (SL a.pg po l.length pc)) (fun k => k.1 ≤ i0) (fun k => i0 - k.1) .ret 0 (fun gl _ => smE a gl e) (fun h => by cases h) (0, 0, 0) (Nat.zero_le _) (fun gl k hk => ?_)
  obtain ⟨i, g, room⟩ := k
  have hk' : i ≤ i0 := hk
  have hlt0 := lt_of_get hq0
  by_cases hlt : i < i0
  · obtain ⟨q, hq⟩ : ∃ q, l[i]? = some q := ⟨_, List.getElem?_eq_getElem (by omega)⟩
    obtain ⟨k', recs, h1, h2, h3⟩ := sm_next (kc := kc) (pc := pc) (w0 := w0) H hq (hg i q hlt hq) g room gl
    exact .go k' (fun γ => by rw [h1]; omega) (fun γ => by rw [h1]; show i0 - (i + 1) < i0 - i; omega) 8 recs h2.all h3
  · have e0 : i = i0 := by omega
    subst e0
    have hl := H.lt q0 (List.mem_of_getElem? hq0)
    obtain ⟨inv, more, hS⟩ : ∃ inv more, smL_ a l (SL a.kg ko l.length kc) (SL a.pg po l.length pc) gl (i, g, room) = smS a (SL a.kg ko l.length kc) (SL a.pg po l.length pc) l.length gl i inv more := by
      cases i with
      | zero => exact ⟨_, _, rfl⟩
      | succ i => exact ⟨_, _, rfl⟩
    rcases hbad with ⟨h1, rfl⟩ | ⟨h1, h2, rfl⟩
    · refine .stop (fun _ _ => 0) (fun _ _ _ => rfl) 8 (smHead a ko kc l.length i q0.1 20) (smHead_ok H hq0 (qc_out h1 hl.1)).all (fun γ => ?_)
      rw [hS]
      exact sm_bad1 a ko kc _ inv l.length i q0.1 more gl γ
    · refine .stop (fun _ _ => 0) (fun _ _ _ => rfl) 8 (smHead a ko kc l.length i q0.1 0 ++ smMid a po pc l.length i q0.2 30) ((smHead_ok H hq0 (qc_in h1)).append (smMid_ok (e := 30) H hq0 (f21_no hl.2.1 hl.2.2 h2))).all (fun γ => ?_)
      rw [hS]
      exact sm_bad2 a ko kc po pc inv l.length i q0.1 q0.2 more gl γ
end

theorem flat_get {α : Type} {f : α → List Value} {c : Nat} (hf : ∀ x, (f x).length = c) : ∀ (l : List α) (i j : Nat) (x : α) (v : Value), l[i]? = some x → (f x)[j]? = some v → (l.flatMap f)[i * c + j]? = some v
  | [], _, _, _, _, h, _ => by simp at h
  | y :: l, 0, j, x, v, h, hv => by
    simp only [List.getElem?_cons_zero, Option.some.injEq] at h
    subst h
    rw [List.flatMap_cons, Nat.zero_mul, Nat.zero_add, List.getElem?_append_left (lt_of_get hv)]
    exact hv
  | y :: l, i + 1, j, x, v, h, hv => by
    simp only [List.getElem?_cons_succ] at h
    rw [List.flatMap_cons, List.getElem?_append_right (by rw [hf]; rw [Nat.succ_mul]; omega), hf, show (i + 1) * c + j - c = i * c + j by rw [Nat.succ_mul]; omega]
    exact flat_get hf l i j x v h hv

def lj (l : List (Nat × W9)) : List (Nat × J) := l.map fun q => (q.1, q.2.j)
theorem lj_get {l : List (Nat × W9)} {i : Nat} {q : Nat × J} (h : (lj l)[i]? = some q) : ∃ q', l[i]? = some q' ∧ q = (q'.1, q'.2.j) := by
  unfold lj at h
  rw [List.getElem?_map] at h
  cases hl : l[i]? with
  | none => rw [hl] at h; cases h
  | some q' => rw [hl] at h; simp only [Option.map_some, Option.some.injEq] at h; exact ⟨q', rfl, h.symm⟩

theorem ladC_ok {a : SmA} {l : List (Nat × W9)} {ka pa : Option Addr} {ko po kc : Nat} (H : SmH a l ka ko pa po) (hg : ∀ q ∈ l, good q) {w0 : World} : (ladC a (.slice ka l.length kc) (jcs l) l.length (ladR (lj l) 256)).Ok Try.prog w0 := by
  refine ec_ok Try.func73 (by kernel_rfl) rfl (fun σ => ?_)
  have hlen : (lj l).length = l.length := by unfold lj; rw [List.length_map]
  have h := f73_ok (a := ⟨σ 0, σ 100, a.kg, a.kc, a.kt, σ 2, jcs l ++ zs z12 (σ 10002 - l.length), 96⟩) (l := lj l) (ka := ka) (ko := ko) (pa := some ⟨σ 2, 0, none⟩) (po := 0) (kc := kc) (pc := σ 10002) {
    k := fun h => H.k (by rw [← hlen]; exact h)
    p := fun _ => rfl
    kc := fun i q hq j v hv => by
      obtain ⟨q', hq', rfl⟩ := lj_get hq
      exact H.kc i q' hq' j v hv
    pc := fun i q hq j v hv => by
      obtain ⟨q', hq', rfl⟩ := lj_get hq
      have h1 := flat_get (f := fun q : Nat × W9 => jl q.2.j) (c := 12) (fun _ => rfl) l i j q' v hq' hv
      show (jcs l ++ zs z12 (σ 10002 - l.length))[0 + i * 12 + j]? = some v
      unfold jcs
      rw [Nat.zero_add, List.getElem?_append_left (lt_of_get h1)]
      exact h1
    lt := fun q hq => by
      obtain ⟨i, hi⟩ := List.getElem?_of_mem hq
      obtain ⟨q', hq', rfl⟩ := lj_get hi
      exact jIn_lt _ _ _
    n := by rw [hlen]; have := H.n; omega }
  rw [hlen] at h
  refine h.of fun w hw e he => ?_
  simp only [LdA.hp, List.mem_cons, List.not_mem_nil, or_false] at he
  rcases he with rfl | rfl | rfl | rfl
  · exact (hw (planeE (σ 0) (σ 100) [] true) (by simp)).weak rfl rfl rfl rfl
  · exact (hw (montO (σ 100) P P2 Pi) (by simp)).weak rfl rfl rfl rfl
  · exact hw a.k (by simp)
  · exact (hw (inE (σ 2) (jcs l) (σ 10002 - l.length)) (by simp)).weak rfl rfl rfl rfl

theorem nc29_ok {w : World} {tag : Tag} : (nc 29 [] 2 twoV scalN tag).Ok Try.prog w := nc_ok f29_ok

/-- curve.Sum, of numbers and points that are right -/
theorem f24_good {a : SmA} {l : List (Nat × W9)} {ka pa : Option Addr} {ko po kc pc : Nat} (H : SmH a l ka ko pa po) (hg : ∀ q ∈ l, good q) (h0 : 0 < l.length) {S : Pnt} (hS : JJ (ladR (lj l) 256) S) :
    PureAt [a.k, a.p] 24 [.slice ka l.length kc, .slice pa l.length pc] (.tuple #[PVt S, I 0]) := by
  have hk := H.k h0
  have hp := H.p h0
  subst hk hp
  have hl : (ladR (lj l) 256).lt := ladR_lt (fun q hq => by
    obtain ⟨i, hi⟩ := List.getElem?_of_mem hq
    obtain ⟨q', hq', rfl⟩ := lj_get hi
    exact jIn_lt _ _ _) 256
  have h57 := fun g h => f57_ok (g := g) (h := h) hS hl
  have h73 := fun w0 : World => ladC_ok (kc := kc) (w0 := w0) H hg
  generalize ladR (lj l) 256 = v at *
  have hn := H.n
  exact pureAt_of Try.func24 rfl 8 [(SL a.kg ko l.length kc, .at_ 0), (SL a.pg po l.length pc, .at_ 1)] [a.k, a.p] (f24Recs a (SL a.kg ko l.length kc) (SL a.pg po l.length pc) l v (PVt S)) _ rfl
    (fun _ => ⟨rn_ok (nqX_false _), rn_ok (grX_false hn), nc29_ok, plc_ok, smRec_ok H hg h0, h73 _, loc_ok h57, trivial⟩) (fun γ => f24_raw a _ _ kc pc l v _ _ _ γ)

noncomputable def f24Bad (a : SmA) (kv pv : Value) (l : List (Nat × W9)) (e : Nat) : List Rec :=
  [rn 16 (nqX l.length l.length) (.bool false), rn 20 (grX l.length 64) (.bool false), nc 29 [] 2 twoV scalN (.at_ 4), plc 5, smBad a kv pv l e]
theorem f24_bad {a : SmA} {l : List (Nat × W9)} {ka pa : Option Addr} {ko po kc pc : Nat} (H : SmH a l ka ko pa po) {i0 e : Nat} (hb : badAt l i0 e) :
    PureAt [a.k, a.p] 24 [.slice ka l.length kc, .slice pa l.length pc] (.tuple #[PV 0 0 false, I (e : Nat)]) := by
  have h0 : 0 < l.length := by
    obtain ⟨_, q, hq, _⟩ := hb
    have := lt_of_get hq
    omega
  have hk := H.k h0
  have hp := H.p h0
  subst hk hp
  have hn := H.n
  exact pureAt_of Try.func24 rfl 8 [(SL a.kg ko l.length kc, .at_ 0), (SL a.pg po l.length pc, .at_ 1)] [a.k, a.p] (f24Bad a (SL a.kg ko l.length kc) (SL a.pg po l.length pc) l e) _ rfl
    (fun _ => ⟨rn_ok (nqX_false _), rn_ok (grX_false hn), nc29_ok, plc_ok, smBad_ok H hb, trivial⟩) (fun γ => by kernel_rfl)

theorem f24_len {ka pa : Option Addr} {n m kc pc : Nat} (h : n ≠ m ∨ 64 < n) : Pure 24 [.slice ka n kc, .slice pa m pc] (.tuple #[PV 0 0 false, I 1]) := by
  by_cases hnm : n = m
  · subst hnm
    exact pure_of Try.func24 rfl 8 [.slice ka n kc, .slice pa n pc] [rn 16 (nqX n n) (.bool false), rn 20 (grX n 64) (.bool true)] _ (fun _ => ⟨rn_ok (nqX_false _), rn_ok (grX_true (by omega)), trivial⟩) (fun γ => by kernel_rfl)
  · exact pure_of Try.func24 rfl 8 [.slice ka n kc, .slice pa m pc] [rn 16 (nqX n m) (.bool true)] _ (fun _ => ⟨rn_ok (nqX_true hnm), trivial⟩) (fun γ => by kernel_rfl)

def lad0 (ka : Option Addr) (kc : Nat) (v : J) : Rec :=
  ec (some 63) [0] 73 (fun σ => [PT (σ 0), FU 74, FU 58, .slice ka 0 kc, .slice none 0 0]) (fun σ => [(3, montO (σ 100) P P2 Pi), (4, planeE (σ 0) (σ 100) [] true)]) (JV v.x v.y v.z)
theorem f24_zero {ka pa : Option Addr} {kc pc : Nat} : Pure 24 [.slice ka 0 kc, .slice pa 0 pc] (.tuple #[PV 0 0 true, I 0]) := by
  have h1 : JJ (ladR [] 256) none := by
    have : ∀ m, ladR [] m = ⟨0, 0, 0⟩ := fun m => by
      induction m with
      | zero => rfl
      | succ m ih => show lstep _ (dbl (ladR [] m)) [] = _; rw [ih]; rfl
    rw [this]
    exact JJ_inf
  have hl : (ladR [] 256).lt := ladR_lt (fun q hq => by cases hq) 256
  have h57 := fun g h => f57_ok (g := g) (h := h) h1 hl
  have h73 : ∀ w0 : World, (lad0 ka kc (ladR [] 256)).Ok Try.prog w0 := fun w0 => by
    refine ec_ok Try.func73 (by kernel_rfl) rfl (fun σ => ?_)
    have h := f73_ok (a := ⟨σ 0, σ 100, σ 100, (montO (σ 100) P P2 Pi).cs, 153, σ 100, (montO (σ 100) P P2 Pi).cs, 153⟩) (l := []) (ka := ka) (ko := 0) (pa := none) (po := 0) (kc := kc) (pc := 0)
      { k := fun h => absurd h (by decide), p := fun h => absurd h (by decide), kc := fun i q hq => (by simp at hq), pc := fun i q hq => (by simp at hq), lt := fun q hq => (by cases hq), n := by decide }
    refine h.of fun w hw e he => ?_
    simp only [LdA.hp, List.mem_cons, List.not_mem_nil, or_false] at he
    rcases he with rfl | rfl | rfl | rfl
    · exact (hw (planeE (σ 0) (σ 100) [] true) (by simp)).weak rfl rfl rfl rfl
    · exact (hw (montO (σ 100) P P2 Pi) (by simp)).weak rfl rfl rfl rfl
    · exact (hw (montO (σ 100) P P2 Pi) (by simp)).weak rfl rfl rfl rfl
    · exact (hw (montO (σ 100) P P2 Pi) (by simp)).weak rfl rfl rfl rfl
  generalize ladR [] 256 = v at *
  exact pure_of Try.func24 rfl 8 [.slice ka 0 kc, .slice pa 0 pc] [nc 29 [] 2 twoV scalN (.at_ 2), plc 3, lad0 ka kc v, loc 57 3 [JV v.x v.y v.z] (PV 0 0 true)] _ (fun _ => ⟨nc29_ok, plc_ok, h73 _, loc_ok h57, trivial⟩) (fun γ => by kernel_rfl)

end Go.Proofs.Ytildcmggcbdhpaa
