/- Package curve: the ladder. No conditions but that the slices' numbers and points stand where their values say. -/
import Derived.Test.YtildcmggcbdhpaaCurveA
import Derived.Test.YtildcmggcbdhpaaField
import Derived.Test.YtildcmggcbdhpaaEx
namespace Go.Proofs.Ytildcmggcbdhpaa
open Go.Ex Go.RowKit Lim
set_option maxRecDepth 100000

def FU (f : Nat) : Value := .func (.func f) #[] #[]
def SL (g off n c : Nat) : Value := .slice (some ⟨g, off, none⟩) n c
def nl (k : Nat) : List Value := [U (l0 k), U (l1 k), U (l2 k), U (l3 k)]
def jl (p : J) : List Value := [U (l0 p.x), U (l1 p.x), U (l2 p.x), U (l3 p.x), U (l0 p.y), U (l1 p.y), U (l2 p.y), U (l3 p.y), U (l0 p.z), U (l1 p.z), U (l2 p.z), U (l3 p.z)]
def jE (g : Nat) (p : J) : Ent := ⟨g, jl p, [], 96, true⟩
/-- a block that is handed in -/
def xE (g : Nat) (cs : List Value) (t : TypeId) : Ent := ⟨g, cs, [], t, false⟩

def lsX (i n : Nat) : Value := .bool (decide ((i : Int) < (n : Int)))
theorem lsX_true {i n : Nat} (h : i < n) : lsX i n = .bool true := by unfold lsX; rw [decide_eq_true (by omega)]
theorem lsX_false {i n : Nat} (h : n ≤ i) : lsX i n = .bool false := by unfold lsX; rw [decide_eq_false (by omega)]
def adX (i : Nat) : Value := .int .i64 (IntKind.i64.wrap ((i : Int) + 1))
theorem adX_eq {i : Nat} (h : i < 1000000) : adX i = I (i + 1 : Nat) := by
  unfold adX
  rw [show (i : Int) + 1 = ((i + 1 : Nat) : Int) by omega, wrap64 (by omega)]

noncomputable def ldO : Code := (loopsOf (Fx Try.f73)).getD 0 .skip
noncomputable def ldI : Code := (loopsOf (Fx Try.f73)).getD 1 .skip

structure LdA where
  g : Nat
  h : Nat
  kg : Nat
  kc : List Value
  kt : TypeId
  pg : Nat
  pc : List Value
  pt : TypeId

def LdA.hp (a : LdA) : List Ent := [planeE a.g a.h lTg false, montE a.h P P2 Pi, xE a.kg a.kc a.kt, xE a.pg a.pc a.pt]

def ldS (a : LdA) (kv pv : Value) (gl : List Nat) (i : Value) (o : J) (more : List (Nat × Value)) : St :=
  ⟨frOf 44 ([(0, PT a.g), (1, FU 74), (2, FU 58), (3, kv), (4, pv), (10, PT (gl.getD 4 0)), (11, PT (gl.getD 5 0)), (12, i)] ++ more), tgOf 44 [(0, .at_ 0), (3, .at_ 2), (4, .at_ 3), (10, .at_ 4), (11, .at_ 5), (23, .at_ 2)],
    a.hp ++ [jE (gl.getD 4 0) ⟨0, 0, 0⟩, jE (gl.getD 5 0) o]⟩
def ldM (kv : Value) (n i : Nat) : List (Nat × Value) := [(23, kv), (24, I (n : Nat)), (25, I (i : Nat))]

def ldHead (a : LdA) (ko kc n b i k bit : Nat) : List Rec := [rn 26 (lsX i n) (.bool true), ixF 28 39 a.kg ko n kc i (ko + i * 4), ldF 29 2 (xE a.kg a.kc a.kt) 24 (ko + i * 4) (NV k), pc 114 [NV k, I (b : Nat)] (U bit)]
def ldAdd (a : LdA) (po pc n i : Nat) (o p o' : J) : List Rec := [ixF 39 108 a.pg po n pc i (po + i * 12), ldF 40 3 (xE a.pg a.pc a.pt) 96 (po + i * 12) (JV p.x p.y p.z), mc 58 [PT a.g, JV o.x o.y o.z, JV p.x p.y p.z] (lNi a.g a.h) (JV o'.x o'.y o'.z)]

theorem ld_go0 (a : LdA) (ko kc po pc n b i k : Nat) (o : J) (gl : List Nat) (γ : Nat → Nat) :
    endL (ldS a (SL a.kg ko n kc) (SL a.pg po n pc) gl (I (b : Nat)) o (ldM (SL a.kg ko n kc) n (i + 1))) (exec Try.prog ldI ⟨ldS a (SL a.kg ko n kc) (SL a.pg po n pc) gl (I (b : Nat)) o (ldM (SL a.kg ko n kc) n i), (List.range 8).map γ, ldHead a ko kc n b i k 0 ++ [rn 42 (adX i) (I (i + 1 : Nat))], []⟩) =
      endR .normal (ldS a (SL a.kg ko n kc) (SL a.pg po n pc) gl (I (b : Nat)) o (ldM (SL a.kg ko n kc) n (i + 1))) (exec Try.prog ldI ⟨ldS a (SL a.kg ko n kc) (SL a.pg po n pc) gl (I (b : Nat)) o (ldM (SL a.kg ko n kc) n i), (List.range 8).map γ, ldHead a ko kc n b i k 0 ++ [rn 42 (adX i) (I (i + 1 : Nat))], []⟩) := by kernel_rfl
theorem ld_go1 (a : LdA) (ko kc po pc n b i k : Nat) (o p o' : J) (gl : List Nat) (γ : Nat → Nat) :
    endL (ldS a (SL a.kg ko n kc) (SL a.pg po n pc) gl (I (b : Nat)) o' (ldM (SL a.kg ko n kc) n (i + 1))) (exec Try.prog ldI ⟨ldS a (SL a.kg ko n kc) (SL a.pg po n pc) gl (I (b : Nat)) o (ldM (SL a.kg ko n kc) n i), (List.range 8).map γ, ldHead a ko kc n b i k 1 ++ (ldAdd a po pc n i o p o' ++ [rn 42 (adX i) (I (i + 1 : Nat))]), []⟩) =
      endR .normal (ldS a (SL a.kg ko n kc) (SL a.pg po n pc) gl (I (b : Nat)) o' (ldM (SL a.kg ko n kc) n (i + 1))) (exec Try.prog ldI ⟨ldS a (SL a.kg ko n kc) (SL a.pg po n pc) gl (I (b : Nat)) o (ldM (SL a.kg ko n kc) n i), (List.range 8).map γ, ldHead a ko kc n b i k 1 ++ (ldAdd a po pc n i o p o' ++ [rn 42 (adX i) (I (i + 1 : Nat))]), []⟩) := by kernel_rfl
theorem ld_out (a : LdA) (kv pv : Value) (n b i : Nat) (o : J) (gl : List Nat) (γ : Nat → Nat) :
    endL (ldS a kv pv gl (I (b : Nat)) o []) (exec Try.prog ldI ⟨ldS a kv pv gl (I (b : Nat)) o (ldM kv n i), (List.range 8).map γ, [rn 26 (lsX i n) (.bool false)], []⟩) =
      endR (.exit 2) (ldS a kv pv gl (I (b : Nat)) o []) (exec Try.prog ldI ⟨ldS a kv pv gl (I (b : Nat)) o (ldM kv n i), (List.range 8).map γ, [rn 26 (lsX i n) (.bool false)], []⟩) := by kernel_rfl

theorem ld_go (a : LdA) (ka pa : Option Addr) (kc pc : Nat) (b : Nat) (o o1 o2 : J) (gl : List Nat) (γ : Nat → Nat) (n : Nat) :
    endL (ldS a (.slice ka n kc) (.slice pa n pc) gl (V8 b) o2 []) (exec Try.prog ldO ⟨ldS a (.slice ka n kc) (.slice pa n pc) gl (I (b : Nat)) o [], (List.range 8).map γ, [rn 16 (geX b) (.bool true), mc 74 [PT a.g, JV o.x o.y o.z] (lNi a.g a.h) (JV o1.x o1.y o1.z), .code ldI (fun gl => ldS a (.slice ka n kc) (.slice pa n pc) gl (I (b : Nat)) o1 (ldM (.slice ka n kc) n 0)) (fun gl => ldS a (.slice ka n kc) (.slice pa n pc) gl (I (b : Nat)) o2 []) (.exit 2), rn 18 (decX b) (V8 b)], []⟩) =
      endR .normal (ldS a (.slice ka n kc) (.slice pa n pc) gl (V8 b) o2 []) (exec Try.prog ldO ⟨ldS a (.slice ka n kc) (.slice pa n pc) gl (I (b : Nat)) o [], (List.range 8).map γ, [rn 16 (geX b) (.bool true), mc 74 [PT a.g, JV o.x o.y o.z] (lNi a.g a.h) (JV o1.x o1.y o1.z), .code ldI (fun gl => ldS a (.slice ka n kc) (.slice pa n pc) gl (I (b : Nat)) o1 (ldM (.slice ka n kc) n 0)) (fun gl => ldS a (.slice ka n kc) (.slice pa n pc) gl (I (b : Nat)) o2 []) (.exit 2), rn 18 (decX b) (V8 b)], []⟩) := by kernel_rfl

theorem ld_stop (a : LdA) (kv pv : Value) (o : J) (gl : List Nat) (γ : Nat → Nat) :
    endL (ldS a kv pv gl (V8 0) o []) (exec Try.prog ldO ⟨ldS a kv pv gl (V8 0) o [], (List.range 8).map γ, [], []⟩) =
      endR (.exit 0) (ldS a kv pv gl (V8 0) o []) (exec Try.prog ldO ⟨ldS a kv pv gl (V8 0) o [], (List.range 8).map γ, [], []⟩) := by kernel_rfl

/-- what a bit's round adds -/
def lstep (b : Nat) : J → List (Nat × J) → J
  | o, [] => o
  | o, (k, p) :: l => lstep b (if bitN k b = 1 then plus o p else o) l
theorem lstep_append (b : Nat) : ∀ (l m : List (Nat × J)) (o : J), lstep b o (l ++ m) = lstep b (lstep b o l) m
  | [], _, _ => rfl
  | _ :: l, m, _ => lstep_append b l m _
/-- the highest m bits -/
def ladR (l : List (Nat × J)) : Nat → J
  | 0 => ⟨0, 0, 0⟩
  | m + 1 => lstep (255 - m) (dbl (ladR l m)) l

theorem lstep_lt (b : Nat) : ∀ (l : List (Nat × J)) (o : J), o.lt → (∀ q ∈ l, q.2.lt) → (lstep b o l).lt
  | [], _, h, _ => h
  | (k, p) :: l, o, h, hl => by
    refine lstep_lt b l _ ?_ (fun q hq => hl q (List.mem_cons_of_mem _ hq))
    split
    · exact plus_lt h (hl (k, p) (by simp))
    · exact h
theorem ladR_lt {l : List (Nat × J)} (hl : ∀ q ∈ l, q.2.lt) : ∀ m, (ladR l m).lt
  | 0 => ⟨P_pos, P_pos, P_pos⟩
  | _ + 1 => lstep_lt _ _ _ (dbl_lt _) hl

/-- numbers and points stand in blocks -/
structure LdH (a : LdA) (l : List (Nat × J)) (ka : Option Addr) (ko : Nat) (pa : Option Addr) (po : Nat) : Prop where
  k : 0 < l.length → ka = some ⟨a.kg, ko, none⟩
  p : 0 < l.length → pa = some ⟨a.pg, po, none⟩
  kc : ∀ i q, l[i]? = some q → ∀ j v, (nl q.1)[j]? = some v → a.kc[ko + i * 4 + j]? = some v
  pc : ∀ i q, l[i]? = some q → ∀ j v, (jl q.2)[j]? = some v → a.pc[po + i * 12 + j]? = some v
  lt : ∀ q ∈ l, q.2.lt
  n : l.length < 1000

theorem sl39 : Try.prog.underlying 39 = some (.slice 24) := by kernel_rfl
theorem sl108 : Try.prog.underlying 108 = some (.slice 96) := by kernel_rfl
theorem sz24 : (Try.prog.info? 24).map (·.size) = some 4 := by kernel_rfl
theorem sz96 : (Try.prog.info? 96).map (·.size) = some 12 := by kernel_rfl
theorem un24 : ∃ d, Try.prog.underlying 24 = some d ∧ d.isRow = true := ⟨.array 4 22, by kernel_rfl, rfl⟩
theorem un96 : ∃ d, Try.prog.underlying 96 = some d ∧ d.isRow = true := ⟨.struct (Try.prog.fieldsOf 96), by kernel_rfl, rfl⟩
theorem mod4 (k : Nat) : NV k = .agg (nl k).toArray := rfl
theorem jl_v (p : J) : JV p.x p.y p.z = .agg (jl p).toArray := rfl

theorem ldN_ok {w0 : World} {d j : Nat} {e : Ent} {off k : Nat} (h : ∀ i v, (nl k)[i]? = some v → e.cs[off + i]? = some v) : (ldF d j e 24 off (NV k)).Ok Try.prog w0 := by
  obtain ⟨td, h1, h2⟩ := un24
  rw [mod4]
  exact ldF_ok h h1 h2 (by rw [sz24]; rfl)
theorem ldJ_ok {w0 : World} {d j : Nat} {e : Ent} {off : Nat} {p : J} (h : ∀ i v, (jl p)[i]? = some v → e.cs[off + i]? = some v) : (ldF d j e 96 off (JV p.x p.y p.z)).Ok Try.prog w0 := by
  obtain ⟨td, h1, h2⟩ := un96
  rw [jl_v]
  exact ldF_ok h h1 h2 (by rw [sz96]; rfl)

theorem lNi_need {g h : Nat} {f : FuncId} {args : List Value} {v : Value} (hp : PureAt (lN g h) f args v) : PureAt ((lNi g h).map (·.2)) f args v := hp

theorem ldI_ok {a : LdA} {l : List (Nat × J)} {ka pa : Option Addr} {ko po kc pc : Nat} (H : LdH a l ka ko pa po) {b : Nat} (hb : b < 256) {o : J} (ho : o.lt) {w0 : World} :
    (Rec.code ldI (fun gl => ldS a (.slice ka l.length kc) (.slice pa l.length pc) gl (I (b : Nat)) o (ldM (.slice ka l.length kc) l.length 0)) (fun gl => ldS a (.slice ka l.length kc) (.slice pa l.length pc) gl (I (b : Nat)) (lstep b o l) []) (.exit 2)).Ok Try.prog w0 := by
  refine Rec.ok_code follows (fun gl i => ldS a (.slice ka l.length kc) (.slice pa l.length pc) gl (I (b : Nat)) (lstep b o (l.take i)) (ldM (.slice ka l.length kc) l.length i)) (fun i => i ≤ l.length) (fun i => l.length - i) (.exit 2)
    (fun gl => ldS a (.slice ka l.length kc) (.slice pa l.length pc) gl (I (b : Nat)) (lstep b o l) []) (fun h => by cases h) 0 (Nat.zero_le _) (fun gl i hi => ?_)
  have hn := H.n
  by_cases hlt : i < l.length
  · obtain ⟨q, hq⟩ : ∃ q, l[i]? = some q := ⟨_, List.getElem?_eq_getElem hlt⟩
    have hk := H.k (by omega)
    have hp := H.p (by omega)
    subst hk hp
    have et : l.take (i + 1) = l.take i ++ [q] := by rw [List.take_add_one, hq]; rfl
    have es : lstep b o (l.take (i + 1)) = if bitN q.1 b = 1 then plus (lstep b o (l.take i)) q.2 else lstep b o (l.take i) := by rw [et, lstep_append]; rfl
    have hol : (lstep b o (l.take i)).lt := lstep_lt _ _ _ ho (fun q hq => H.lt q (List.mem_of_mem_take hq))
    have hhead : ∀ bit, bitN q.1 b = bit → RecsOk w0 (ldHead a ko kc l.length b i q.1 bit) := fun bit hbit =>
      ⟨rn_ok (lsX_true hlt), ixF_ok sl39 sz24 hlt rfl, ldN_ok (H.kc i q hq), pc_ok (hbit ▸ f114_ok q.1 hb), trivial⟩
    have hbit : bitN q.1 b = 0 ∨ bitN q.1 b = 1 := by unfold bitN; omega
    have hinc : RecsOk w0 [rn 42 (adX i) (I (i + 1 : Nat))] := ⟨rn_ok (adX_eq (by omega)), trivial⟩
    rcases hbit with h0 | h1
    · rw [if_neg (by omega)] at es
      refine .go (i + 1) (by omega) (by omega) 8 (ldHead a ko kc l.length b i q.1 0 ++ [rn 42 (adX i) (I (i + 1 : Nat))]) ((hhead 0 h0).append hinc).all (fun γ => ?_)
      rw [es]
      exact ld_go0 a ko kc po pc l.length b i q.1 _ gl γ
    · rw [if_pos h1] at es
      have hql := H.lt q (List.mem_of_getElem? hq)
      have h58 := f58_ok (g := a.g) (h := a.h) hol hql
      have hadd : RecsOk w0 (ldAdd a po pc l.length i (lstep b o (l.take i)) q.2 (plus (lstep b o (l.take i)) q.2)) := ⟨ixF_ok sl108 sz96 hlt rfl, ldJ_ok (H.pc i q hq), mc_ok h58, trivial⟩
      refine .go (i + 1) (by omega) (by omega) 8 (ldHead a ko kc l.length b i q.1 1 ++ (ldAdd a po pc l.length i (lstep b o (l.take i)) q.2 (plus (lstep b o (l.take i)) q.2) ++ [rn 42 (adX i) (I (i + 1 : Nat))])) ((hhead 1 h1).append (hadd.append hinc)).all (fun γ => ?_)
      rw [es]
      exact ld_go1 a ko kc po pc l.length b i q.1 _ q.2 _ gl γ
  · have e : l.take i = l := List.take_of_length_le (by omega)
    refine .stop 8 [rn 26 (lsX i l.length) (.bool false)] (RecsOk.all ⟨rn_ok (lsX_false (by omega)), trivial⟩) (fun γ => ?_)
    rw [e]
    exact ld_out a _ _ l.length b i _ gl γ

noncomputable def ldORec (a : LdA) (l : List (Nat × J)) (ka pa : Option Addr) (kc pc : Nat) (v : J) : Rec :=
  .code ldO (fun gl => ldS a (.slice ka l.length kc) (.slice pa l.length pc) gl (V8 256) ⟨0, 0, 0⟩ []) (fun gl => ldS a (.slice ka l.length kc) (.slice pa l.length pc) gl (V8 0) v []) (.exit 0)
theorem ldO_of {a : LdA} {l : List (Nat × J)} {ka pa : Option Addr} {ko po kc pc : Nat} (H : LdH a l ka ko pa po) (f : Nat → J) (hf : ∀ k, (f k).lt) (hs : ∀ b, b < 256 → f b = lstep b (dbl (f (b + 1))) l) (h0 : f 256 = ⟨0, 0, 0⟩) {w0 : World} :
    (ldORec a l ka pa kc pc (f 0)).Ok Try.prog w0 := by
  unfold ldORec
  rw [← h0]
  refine Rec.ok_code follows (fun gl k => ldS a (.slice ka l.length kc) (.slice pa l.length pc) gl (V8 k) (f k) []) (fun k => k ≤ 256) id (.exit 0)
    (fun gl => ldS a (.slice ka l.length kc) (.slice pa l.length pc) gl (V8 0) (f 0) []) (fun h => by cases h) 256 (Nat.le_refl _) (fun gl k hk => ?_)
  cases k with
  | zero => exact .stop 8 [] (fun r hr => by cases hr) (fun γ => ld_stop a _ _ _ gl γ)
  | succ b =>
    refine .go b (by omega) (by simp) 8 [rn 16 (geX b) (.bool true), mc 74 [PT a.g, JV (f (b + 1)).x (f (b + 1)).y (f (b + 1)).z] (lNi a.g a.h) (JV (dbl (f (b + 1))).x (dbl (f (b + 1))).y (dbl (f (b + 1))).z),
      .code ldI (fun gl => ldS a (.slice ka l.length kc) (.slice pa l.length pc) gl (I (b : Nat)) (dbl (f (b + 1))) (ldM (.slice ka l.length kc) l.length 0)) (fun gl => ldS a (.slice ka l.length kc) (.slice pa l.length pc) gl (I (b : Nat)) (lstep b (dbl (f (b + 1))) l) []) (.exit 2), rn 18 (decX b) (V8 b)]
      (RecsOk.all ⟨rn_ok (geX_eq b), mc_ok (f74_all (g := a.g) (h := a.h) (hf _)), ldI_ok H (by omega) (dbl_lt _), rn_ok (decX_eq (by omega)), trivial⟩) (fun γ => ?_)
    rw [hs b (by omega)]
    generalize f (b + 1) = c
    exact ld_go a ka pa kc pc b c _ _ gl γ l.length
theorem ldO_ok {a : LdA} {l : List (Nat × J)} {ka pa : Option Addr} {ko po kc pc : Nat} (H : LdH a l ka ko pa po) {w0 : World} : (ldORec a l ka pa kc pc (ladR l 256)).Ok Try.prog w0 :=
  ldO_of H (fun k => ladR l (256 - k)) (fun _ => ladR_lt H.lt _) (fun b hb => by
    show ladR l (256 - b) = _
    rw [show 256 - b = (256 - (b + 1)) + 1 by omega]
    show lstep (255 - (256 - (b + 1))) _ l = _
    rw [show 255 - (256 - (b + 1)) = b by omega]) rfl

theorem f73_raw (a : LdA) (ka pa : Option Addr) (kc pc : Nat) (l : List (Nat × J)) (v : J) (γ : Nat → Nat) :
    outL Try.prog Try.f73.results.toList [] (exec Try.prog (Fx Try.f73) ⟨Ex.start Try.f73.ntmps [(PT a.g, .at_ 0), (FU 74, .no), (FU 58, .no), (.slice ka l.length kc, .at_ 2), (.slice pa l.length pc, .at_ 3)] a.hp, (List.range 8).map γ, [ldORec a l ka pa kc pc v], []⟩) =
      outR Try.prog Try.f73.results.toList [] (JV v.x v.y v.z) (exec Try.prog (Fx Try.f73) ⟨Ex.start Try.f73.ntmps [(PT a.g, .at_ 0), (FU 74, .no), (FU 58, .no), (.slice ka l.length kc, .at_ 2), (.slice pa l.length pc, .at_ 3)] a.hp, (List.range 8).map γ, [ldORec a l ka pa kc pc v], []⟩) := by kernel_rfl

/-- (*plane).ladder -/
theorem f73_ok {a : LdA} {l : List (Nat × J)} {ka pa : Option Addr} {ko po kc pc : Nat} (H : LdH a l ka ko pa po) :
    PureAt a.hp 73 [PT a.g, FU 74, FU 58, .slice ka l.length kc, .slice pa l.length pc] (ladR l 256).v :=
  pureAt_of Try.func73 rfl 8 [(PT a.g, .at_ 0), (FU 74, .no), (FU 58, .no), (.slice ka l.length kc, .at_ 2), (.slice pa l.length pc, .at_ 3)] a.hp [ldORec a l ka pa kc pc (ladR l 256)] _ rfl (fun _ => ⟨ldO_ok H, trivial⟩) (fun γ => f73_raw a ka pa kc pc l _ γ)

end Go.Proofs.Ytildcmggcbdhpaa
