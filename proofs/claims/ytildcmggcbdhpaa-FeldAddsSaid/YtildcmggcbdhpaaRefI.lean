/- The document's answers, layer 3: sums of numbers times points. No conditions but that numbers are below R, and that the slices' numbers and points stand where their values say. -/
import Derived.Test.YtildcmggcbdhpaaLawTimes
namespace Go.Proofs.Ytildcmggcbdhpaa
open Go.Ex Go.RowKit Lim
set_option maxRecDepth 100000

noncomputable def rsL : Code := (loopsOf (Fx Try.f25)).getD 0 .skip
noncomputable def rsM : Code := (loopsOf (Fx Try.f25)).getD 1 .skip

def rsH (a : SmA) (gl : List Nat) (c : J) : List Ent := [a.k, a.p, ptE (gl.getD 2 0) 0 0 false, FE (gl.getD 3 0) Q CQ true, oE (gl.getD 4 0) c]
def rsS (a : SmA) (kv pv : Value) (n : Nat) (gl : List Nat) (i : Nat) : St :=
  ⟨frOf 65 [(0, kv), (1, pv), (4, PT (gl.getD 2 0)), (6, PT (gl.getD 3 0)), (7, PT (gl.getD 4 0)), (25, I (n : Nat)), (26, I (i : Nat))],
    tgOf 65 [(0, .at_ 0), (1, .at_ 1), (4, .at_ 2), (6, .at_ 3), (7, .at_ 4)], rsH a gl ⟨0, 1, 0⟩⟩
def rsE (a : SmA) (gl : List Nat) (e : Nat) : St := ⟨frOf 65 [(4, PT (gl.getD 2 0)), (5, I (e : Nat))], tgOf 65 [(4, .at_ 2)], rsH a gl ⟨0, 1, 0⟩⟩
def rsO (a : SmA) (kv pv : Value) (gl : List Nat) : St :=
  ⟨frOf 65 [(0, kv), (1, pv), (4, PT (gl.getD 2 0)), (7, PT (gl.getD 4 0))], tgOf 65 [(0, .at_ 0), (1, .at_ 1), (4, .at_ 2), (7, .at_ 4)], rsH a gl ⟨0, 1, 0⟩⟩
def rsT (a : SmA) (kv pv : Value) (n : Nat) (gl : List Nat) (i : Nat) (c : J) : St :=
  ⟨frOf 65 [(0, kv), (1, pv), (4, PT (gl.getD 2 0)), (7, PT (gl.getD 4 0)), (46, I (n : Nat)), (47, I (i : Nat))], tgOf 65 [(0, .at_ 0), (1, .at_ 1), (4, .at_ 2), (7, .at_ 4)], rsH a gl c⟩
def rsP (a : SmA) (gl : List Nat) (c : J) : St := ⟨frOf 65 [(4, PT (gl.getD 2 0)), (7, PT (gl.getD 4 0))], tgOf 65 [(4, .at_ 2), (7, .at_ 4)], rsH a gl c⟩

def rsHead (a : SmA) (ko kc n i k : Nat) (q : Bool) : List Rec := [rn 27 (lsX i n) (.bool true), ixF 32 39 a.kg ko n kc i (ko + i * 4), ldF 33 0 a.k 24 (ko + i * 4) (NV k), pc 46 [FV Q CQ, NV k] (.bool q)]
def rsMid (a : SmA) (po pc' n i : Nat) (p : W9) (q : Bool) : List Rec := [ixF 39 40 a.pg po n pc' i (po + i * 9), ldF 40 1 a.p 26 (po + i * 9) (PV p.x p.y p.inf), pc 20 [PV p.x p.y p.inf] (.bool q)]
theorem rs_go (a : SmA) (ko kc po pc' n i k : Nat) (p : W9) (gl : List Nat) (γ : Nat → Nat) :
    endL (rsS a (SL a.kg ko n kc) (SL a.pg po n pc') n gl (i + 1)) (exec Try.prog rsL ⟨rsS a (SL a.kg ko n kc) (SL a.pg po n pc') n gl i, (List.range 8).map γ, rsHead a ko kc n i k true ++ (rsMid a po pc' n i p true ++ [rn 44 (adX i) (I (i + 1 : Nat))]), []⟩) =
      endR .normal (rsS a (SL a.kg ko n kc) (SL a.pg po n pc') n gl (i + 1)) (exec Try.prog rsL ⟨rsS a (SL a.kg ko n kc) (SL a.pg po n pc') n gl i, (List.range 8).map γ, rsHead a ko kc n i k true ++ (rsMid a po pc' n i p true ++ [rn 44 (adX i) (I (i + 1 : Nat))]), []⟩) := by kernel_rfl
theorem rs_bad1 (a : SmA) (ko kc n i k : Nat) (pv : Value) (gl : List Nat) (γ : Nat → Nat) :
    endL (rsE a gl 20) (exec Try.prog rsL ⟨rsS a (SL a.kg ko n kc) pv n gl i, (List.range 8).map γ, rsHead a ko kc n i k false, []⟩) =
      endR .ret (rsE a gl 20) (exec Try.prog rsL ⟨rsS a (SL a.kg ko n kc) pv n gl i, (List.range 8).map γ, rsHead a ko kc n i k false, []⟩) := by kernel_rfl
theorem rs_bad2 (a : SmA) (ko kc po pc' n i k : Nat) (p : W9) (gl : List Nat) (γ : Nat → Nat) :
    endL (rsE a gl 30) (exec Try.prog rsL ⟨rsS a (SL a.kg ko n kc) (SL a.pg po n pc') n gl i, (List.range 8).map γ, rsHead a ko kc n i k true ++ rsMid a po pc' n i p false, []⟩) =
      endR .ret (rsE a gl 30) (exec Try.prog rsL ⟨rsS a (SL a.kg ko n kc) (SL a.pg po n pc') n gl i, (List.range 8).map γ, rsHead a ko kc n i k true ++ rsMid a po pc' n i p false, []⟩) := by kernel_rfl
theorem rs_out (a : SmA) (kv pv : Value) (n i : Nat) (gl : List Nat) (γ : Nat → Nat) :
    endL (rsO a kv pv gl) (exec Try.prog rsL ⟨rsS a kv pv n gl i, (List.range 8).map γ, [rn 27 (lsX i n) (.bool false)], []⟩) =
      endR (.exit 0) (rsO a kv pv gl) (exec Try.prog rsL ⟨rsS a kv pv n gl i, (List.range 8).map γ, [rn 27 (lsX i n) (.bool false)], []⟩) := by kernel_rfl
def rsAdd (a : SmA) (ko kc po pc' n i k : Nat) (p : W9) (c o t c' : J) : List Rec := [rn 48 (lsX i n) (.bool true), ixF 53 39 a.kg ko n kc i (ko + i * 4), ldF 54 0 a.k 24 (ko + i * 4) (NV k), ixF 57 40 a.pg po n pc' i (po + i * 9), ldF 58 1 a.p 26 (po + i * 9) (PV p.x p.y p.inf),
  pc 62 [PV p.x p.y p.inf] (jv o), pc 75 [NV k, jv o] (jv t), pc 61 [jv c, jv t] (jv c'), rn 62 (adX i) (I (i + 1 : Nat))]
theorem rs_add (a : SmA) (ko kc po pc' n i k : Nat) (p : W9) (c o t c' : J) (gl : List Nat) (γ : Nat → Nat) :
    endL (rsT a (SL a.kg ko n kc) (SL a.pg po n pc') n gl (i + 1) c') (exec Try.prog rsM ⟨rsT a (SL a.kg ko n kc) (SL a.pg po n pc') n gl i c, (List.range 8).map γ, rsAdd a ko kc po pc' n i k p c o t c', []⟩) =
      endR .normal (rsT a (SL a.kg ko n kc) (SL a.pg po n pc') n gl (i + 1) c') (exec Try.prog rsM ⟨rsT a (SL a.kg ko n kc) (SL a.pg po n pc') n gl i c, (List.range 8).map γ, rsAdd a ko kc po pc' n i k p c o t c', []⟩) := by kernel_rfl
theorem rs_end (a : SmA) (kv pv : Value) (n i : Nat) (c : J) (gl : List Nat) (γ : Nat → Nat) :
    endL (rsP a gl c) (exec Try.prog rsM ⟨rsT a kv pv n gl i c, (List.range 8).map γ, [rn 48 (lsX i n) (.bool false)], []⟩) =
      endR (.exit 2) (rsP a gl c) (exec Try.prog rsM ⟨rsT a kv pv n gl i c, (List.range 8).map γ, [rn 48 (lsX i n) (.bool false)], []⟩) := by kernel_rfl

section
variable {a : SmA} {l : List (Nat × W9)} {ko po kc pc' : Nat} {w0 : World}
theorem rsHead_ok (H : SmH a l (some ⟨a.kg, ko, none⟩) ko (some ⟨a.pg, po, none⟩) po) {i : Nat} {q : Nat × W9} (hq : l[i]? = some q) {b : Bool} (hb : decide (q.1 < Q) = b) : RecsOk w0 (rsHead a ko kc l.length i q.1 b) :=
  ⟨rn_ok (lsX_true (lt_of_get hq)), ixF_ok sl39 sz24 (lt_of_get hq) rfl, ldN_ok (H.kc i q hq), pc_ok (fQ q.1 (H.lt q (List.mem_of_getElem? hq)).1 hb), trivial⟩
theorem rsMid_ok (H : SmH a l (some ⟨a.kg, ko, none⟩) ko (some ⟨a.pg, po, none⟩) po) {i : Nat} {q : Nat × W9} (hq : l[i]? = some q) {b : Bool} (hb : isPt q.2.x q.2.y q.2.inf = b) : RecsOk w0 (rsMid a po pc' l.length i q.2 b) :=
  ⟨ixF_ok sl40 sz26 (lt_of_get hq) rfl, ldP_ok (H.pc i q hq), pc_ok (f20_is (H.lt q (List.mem_of_getElem? hq)).2.1 (H.lt q (List.mem_of_getElem? hq)).2.2 hb), trivial⟩

theorem rs_next (H : SmH a l (some ⟨a.kg, ko, none⟩) ko (some ⟨a.pg, po, none⟩) po) {i : Nat} {q : Nat × W9} (hq : l[i]? = some q) (hg : good q) :
    RecsOk w0 (rsHead a ko kc l.length i q.1 true ++ (rsMid a po pc' l.length i q.2 true ++ [rn 44 (adX i) (I (i + 1 : Nat))])) := by
  have := lt_of_get hq
  have := H.n
  exact (rsHead_ok H hq (decide_eq_true hg.1)).append ((rsMid_ok H hq hg.2).append (m := [rn 44 (adX i) (I (i + 1 : Nat))]) ⟨rn_ok (adX_eq (by omega)), trivial⟩)

noncomputable def rsRec (a : SmA) (kv pv : Value) (n : Nat) : Rec := .code rsL (fun gl => rsS a kv pv n gl 0) (fun gl => rsO a kv pv gl) (.exit 0)
theorem rsRec_ok (H : SmH a l (some ⟨a.kg, ko, none⟩) ko (some ⟨a.pg, po, none⟩) po) (hg : ∀ q ∈ l, good q) : (rsRec a (SL a.kg ko l.length kc) (SL a.pg po l.length pc') l.length).Ok Try.prog w0 := by
  refine Rec.ok_code follows (fun gl i => rsS a (SL a.kg ko l.length kc) (SL a.pg po l.length pc') l.length gl i) (fun i => i ≤ l.length) (fun i => l.length - i) (.exit 0) (fun gl => rsO a (SL a.kg ko l.length kc) (SL a.pg po l.length pc') gl) (fun h => by cases h) 0 (Nat.zero_le _) (fun gl i hi => ?_)
  by_cases hlt : i < l.length
  · obtain ⟨q, hq⟩ : ∃ q, l[i]? = some q := ⟨_, List.getElem?_eq_getElem hlt⟩
    exact .go (i + 1) (by omega) (by omega) 8 _ (rs_next H hq (hg q (List.mem_of_getElem? hq))).all (fun γ => rs_go a ko kc po pc' l.length i q.1 q.2 gl γ)
  · exact .stop 8 [rn 27 (lsX i l.length) (.bool false)] (RecsOk.all ⟨rn_ok (lsX_false (by omega)), trivial⟩) (fun γ => rs_out a _ _ l.length i gl γ)
noncomputable def rsBad (a : SmA) (kv pv : Value) (n e : Nat) : Rec := .code rsL (fun gl => rsS a kv pv n gl 0) (fun gl => rsE a gl e) .ret
theorem rsBad_ok (H : SmH a l (some ⟨a.kg, ko, none⟩) ko (some ⟨a.pg, po, none⟩) po) {i0 e : Nat} (hb : badAt l i0 e) : (rsBad a (SL a.kg ko l.length kc) (SL a.pg po l.length pc') l.length e).Ok Try.prog w0 := by
  obtain ⟨hg, q0, hq0, hbad⟩ := hb
  have hlt0 := lt_of_get hq0
  refine Rec.ok_code follows (fun gl i => rsS a (SL a.kg ko l.length kc) (SL a.pg po l.length pc') l.length gl i) (fun i => i ≤ i0) (fun i => i0 - i) .ret (fun gl => rsE a gl e) (fun h => by cases h) 0 (Nat.zero_le _) (fun gl i hi => ?_)
  by_cases hlt : i < i0
  · obtain ⟨q, hq⟩ : ∃ q, l[i]? = some q := ⟨_, List.getElem?_eq_getElem (by omega)⟩
    exact .go (i + 1) (by omega) (by omega) 8 _ (rs_next H hq (hg i q hlt hq)).all (fun γ => rs_go a ko kc po pc' l.length i q.1 q.2 gl γ)
  · have e0 : i = i0 := by omega
    subst e0
    rcases hbad with ⟨h1, rfl⟩ | ⟨h1, h2, rfl⟩
    · exact .stop 8 _ (rsHead_ok H hq0 (decide_eq_false (by omega))).all (fun γ => rs_bad1 a ko kc l.length i q0.1 _ gl γ)
    · exact .stop 8 _ ((rsHead_ok H hq0 (decide_eq_true h1)).append (rsMid_ok H hq0 h2)).all (fun γ => rs_bad2 a ko kc po pc' l.length i q0.1 q0.2 gl γ)

/-- the document's sum -/
def W9.o (p : W9) : J := oIn p.x p.y p.inf
def rsum : J → List (Nat × W9) → J
  | c, [] => c
  | c, q :: l => rsum (opl c (Cp.tmS q.1 q.2.o 256)) l
theorem rsum_append : ∀ (l m : List (Nat × W9)) (c : J), rsum c (l ++ m) = rsum (rsum c l) m
  | [], _, _ => rfl
  | _ :: l, m, _ => rsum_append l m _
theorem rsum_is : ∀ (l : List (Nat × W9)) (c : J) (t : Cp), (∀ q ∈ l, good q) → OO c t.1 → c.lt → OO (rsum c l) (t + Cp.lin (cl l)).1 ∧ (rsum c l).lt
  | [], c, t, _, h, hl => ⟨by show OO c (t + Cp.o).1; rw [Cp.add_o]; exact h, hl⟩
  | q :: l, c, t, hg, h, hl => by
    have hq := hg q (by simp)
    obtain ⟨hx, hy⟩ := valid_lt hq.2
    have hlt : q.2.o.lt := oIn_lt hx hy _
    obtain ⟨h1, h2⟩ := f75_cp (k := q.1) (a := cpT q.2) (by rw [cpT_val hq.2]; exact oIn_OO q.2.x q.2.y q.2.inf) hlt (Nat.lt_trans hq.1 Q_R)
    have h3 := OO_opl h h1 hl h2
    rw [← Cp.add_val] at h3
    obtain ⟨h4, h5⟩ := rsum_is l _ _ (fun q hq => hg q (List.mem_cons_of_mem _ hq)) h3 (opl_lt hl h2)
    rw [Cp.assoc] at h4
    exact ⟨h4, h5⟩

noncomputable def rsSum (a : SmA) (kv pv : Value) (n : Nat) (c : J) : Rec := .code rsM (fun gl => rsT a kv pv n gl 0 ⟨0, 1, 0⟩) (fun gl => rsP a gl c) (.exit 2)
theorem rsSum_ok (H : SmH a l (some ⟨a.kg, ko, none⟩) ko (some ⟨a.pg, po, none⟩) po) (hg : ∀ q ∈ l, good q) : (rsSum a (SL a.kg ko l.length kc) (SL a.pg po l.length pc') l.length (rsum ⟨0, 1, 0⟩ l)).Ok Try.prog w0 := by
  refine Rec.ok_code follows (fun gl i => rsT a (SL a.kg ko l.length kc) (SL a.pg po l.length pc') l.length gl i (rsum ⟨0, 1, 0⟩ (l.take i))) (fun i => i ≤ l.length) (fun i => l.length - i) (.exit 2) (fun gl => rsP a gl (rsum ⟨0, 1, 0⟩ l)) (fun h => by cases h) 0 (Nat.zero_le _) (fun gl i hi => ?_)
  by_cases hlt : i < l.length
  · obtain ⟨q, hq⟩ : ∃ q, l[i]? = some q := ⟨_, List.getElem?_eq_getElem hlt⟩
    have hn := H.n
    have hgq := hg q (List.mem_of_getElem? hq)
    obtain ⟨hx, hy⟩ := valid_lt hgq.2
    have hol : q.2.o.lt := oIn_lt hx hy _
    have et : rsum ⟨0, 1, 0⟩ (l.take (i + 1)) = opl (rsum ⟨0, 1, 0⟩ (l.take i)) (Cp.tmS q.1 q.2.o 256) := by
      rw [List.take_add_one, hq, rsum_append]; rfl
    have hc := (rsum_is (l.take i) ⟨0, 1, 0⟩ Cp.o (fun q hq => hg q (List.mem_of_mem_take hq)) OO_inf ⟨P_pos, (by decide : 1 < P), P_pos⟩).2
    have h62 := f62_ok (x := q.2.x) (y := q.2.y) q.2.inf
    have h75 := f75_ok (k := q.1) hol
    have h61 := f61_ok hc (Cp.tmS_lt (k := q.1) hol 256)
    refine .go (i + 1) (by omega) (by omega) 8 (rsAdd a ko kc po pc' l.length i q.1 q.2 (rsum ⟨0, 1, 0⟩ (l.take i)) q.2.o (Cp.tmS q.1 q.2.o 256) (opl (rsum ⟨0, 1, 0⟩ (l.take i)) (Cp.tmS q.1 q.2.o 256)))
      (RecsOk.all ⟨rn_ok (lsX_true hlt), ixF_ok sl39 sz24 hlt rfl, ldN_ok (H.kc i q hq), ixF_ok sl40 sz26 hlt rfl, ldP_ok (H.pc i q hq), pc_ok h62, pc_ok h75, pc_ok h61, rn_ok (adX_eq (by omega)), trivial⟩) (fun γ => ?_)
    rw [et]
    generalize opl (rsum ⟨0, 1, 0⟩ (l.take i)) (Cp.tmS q.1 q.2.o 256) = c'
    generalize rsum ⟨0, 1, 0⟩ (l.take i) = c
    generalize Cp.tmS q.1 q.2.o 256 = t
    generalize q.2.o = o
    exact rs_add a ko kc po pc' l.length i q.1 q.2 c o t c' gl γ
  · have e : l.take i = l := List.take_of_length_le (by omega)
    refine .stop 8 [rn 48 (lsX i l.length) (.bool false)] (RecsOk.all ⟨rn_ok (lsX_false (by omega)), trivial⟩) (fun γ => ?_)
    rw [e]
    generalize rsum ⟨0, 1, 0⟩ l = c
    exact rs_end a _ _ l.length i c gl γ
end

noncomputable def f25Recs (a : SmA) (kv pv : Value) (n : Nat) (v : J) (S : Value) : List Rec :=
  [rn 14 (nqX n n) (.bool false), rn 18 (grX n 64) (.bool false), pc 45 [] (FV Q CQ), rsRec a kv pv n, rsSum a kv pv n v, pc 60 [jv v] S]
theorem f25_raw (a : SmA) (ka pa : Option Addr) (kc pc' n : Nat) (v : J) (x y : Nat) (inf : Bool) (γ : Nat → Nat) :
    outL Try.prog Try.f25.results.toList [] (exec Try.prog (Fx Try.f25) ⟨Ex.start Try.f25.ntmps [(.slice ka n kc, .at_ 0), (.slice pa n pc', .at_ 1)] [a.k, a.p], (List.range 8).map γ, f25Recs a (.slice ka n kc) (.slice pa n pc') n v (PV x y inf), []⟩) =
      outR Try.prog Try.f25.results.toList [] (.tuple #[PV x y inf, I 0]) (exec Try.prog (Fx Try.f25) ⟨Ex.start Try.f25.ntmps [(.slice ka n kc, .at_ 0), (.slice pa n pc', .at_ 1)] [a.k, a.p], (List.range 8).map γ, f25Recs a (.slice ka n kc) (.slice pa n pc') n v (PV x y inf), []⟩) := by kernel_rfl

/-- wardmoteref03.Sum -/
theorem f25_good {a : SmA} {l : List (Nat × W9)} {ka pa : Option Addr} {ko po kc pc' : Nat} (H : SmH a l ka ko pa po) (hg : ∀ q ∈ l, good q) (h0 : 0 < l.length) :
    PureAt [a.k, a.p] 25 [.slice ka l.length kc, .slice pa l.length pc'] (.tuple #[PVt (Cp.lin (cl l)).1, I 0]) := by
  have hk := H.k h0
  have hp := H.p h0
  subst hk hp
  have hn := H.n
  obtain ⟨h1, h2⟩ := rsum_is l ⟨0, 1, 0⟩ Cp.o hg OO_inf ⟨P_pos, (by decide : 1 < P), P_pos⟩
  rw [Cp.o_add] at h1
  have h60 := f60_ok h1 h2
  have hs := fun w0 : World => rsSum_ok (kc := kc) (pc' := pc') (w0 := w0) H hg
  generalize rsum ⟨0, 1, 0⟩ l = v at *
  generalize (Cp.lin (cl l)).1 = S at *
  exact pureAt_of Try.func25 rfl 8 [(SL a.kg ko l.length kc, .at_ 0), (SL a.pg po l.length pc', .at_ 1)] [a.k, a.p] (f25Recs a (SL a.kg ko l.length kc) (SL a.pg po l.length pc') l.length v (PVt S)) _ rfl
    (fun w => ⟨rn_ok (nqX_false _), rn_ok (grX_false hn), pc_ok f45_ok, rsRec_ok H hg, hs w, pc_ok h60, trivial⟩) (fun γ => f25_raw a _ _ kc pc' l.length v _ _ _ γ)
noncomputable def f25Bad (a : SmA) (kv pv : Value) (n e : Nat) : List Rec := [rn 14 (nqX n n) (.bool false), rn 18 (grX n 64) (.bool false), pc 45 [] (FV Q CQ), rsBad a kv pv n e]
theorem f25_bad {a : SmA} {l : List (Nat × W9)} {ka pa : Option Addr} {ko po kc pc' : Nat} (H : SmH a l ka ko pa po) {i0 e : Nat} (hb : badAt l i0 e) :
    PureAt [a.k, a.p] 25 [.slice ka l.length kc, .slice pa l.length pc'] (.tuple #[PV 0 0 false, I (e : Nat)]) := by
  have h0 : 0 < l.length := by
    obtain ⟨_, q, hq, _⟩ := hb
    have := lt_of_get hq
    omega
  have hk := H.k h0
  have hp := H.p h0
  subst hk hp
  have hn := H.n
  exact pureAt_of Try.func25 rfl 8 [(SL a.kg ko l.length kc, .at_ 0), (SL a.pg po l.length pc', .at_ 1)] [a.k, a.p] (f25Bad a (SL a.kg ko l.length kc) (SL a.pg po l.length pc') l.length e) _ rfl
    (fun _ => ⟨rn_ok (nqX_false _), rn_ok (grX_false hn), pc_ok f45_ok, rsBad_ok H hb, trivial⟩) (fun γ => by kernel_rfl)
theorem f25_len {ka pa : Option Addr} {n m kc pc' : Nat} (h : n ≠ m ∨ 64 < n) : Pure 25 [.slice ka n kc, .slice pa m pc'] (.tuple #[PV 0 0 false, I 1]) := by
  by_cases hnm : n = m
  · subst hnm
    exact pure_of Try.func25 rfl 8 [.slice ka n kc, .slice pa n pc'] [rn 14 (nqX n n) (.bool false), rn 18 (grX n 64) (.bool true)] _ (fun _ => ⟨rn_ok (nqX_false _), rn_ok (grX_true (by omega)), trivial⟩) (fun γ => by kernel_rfl)
  · exact pure_of Try.func25 rfl 8 [.slice ka n kc, .slice pa m pc'] [rn 14 (nqX n m) (.bool true)] _ (fun _ => ⟨rn_ok (nqX_true hnm), trivial⟩) (fun γ => by kernel_rfl)
theorem f25_zero {ka pa : Option Addr} {kc pc' : Nat} : Pure 25 [.slice ka 0 kc, .slice pa 0 pc'] (.tuple #[PV 0 0 true, I 0]) :=
  pure_of Try.func25 rfl 8 [.slice ka 0 kc, .slice pa 0 pc'] [pc 45 [] (FV Q CQ), pc 60 [JV 0 1 0] (PV 0 0 true)] _ (fun _ => ⟨pc_ok f45_ok, pc_ok f60_inf, trivial⟩) (fun γ => by kernel_rfl)

/-- which it is -/
theorem cases_bad (l : List (Nat × W9)) : (∀ q ∈ l, good q) ∨ ∃ i e, badAt l i e := by
  have key : ∀ n, n ≤ l.length → (∀ j q, j < n → l[j]? = some q → good q) ∨ ∃ i e, badAt l i e := by
    intro n
    induction n with
    | zero => intro _; exact .inl fun j q hj => by omega
    | succ n ih =>
      intro hn
      rcases ih (by omega) with h | h
      · obtain ⟨q, hq⟩ : ∃ q, l[n]? = some q := ⟨_, List.getElem?_eq_getElem (by omega)⟩
        by_cases h1 : q.1 < Q
        · by_cases h2 : isPt q.2.x q.2.y q.2.inf = true
          · refine .inl fun j q' hj hq' => ?_
            by_cases hjn : j = n
            · subst hjn
              rw [hq] at hq'
              cases hq'
              exact ⟨h1, h2⟩
            · exact h j q' (by omega) hq'
          · exact .inr ⟨n, 30, h, q, hq, .inr ⟨h1, by simpa using h2, rfl⟩⟩
        · exact .inr ⟨n, 20, h, q, hq, .inl ⟨by omega, rfl⟩⟩
      · exact .inr h
  rcases key l.length (Nat.le_refl _) with h | h
  · refine .inl fun q hq => ?_
    obtain ⟨i, hi⟩ := List.getElem?_of_mem hq
    exact h i q (lt_of_get hi) hi
  · exact .inr h

/-- both sums come to the same -/
theorem both_sums {a : SmA} {l : List (Nat × W9)} {ka pa : Option Addr} {ko po kc pc' : Nat} (H : SmH a l ka ko pa po) : ∃ x y inf e, x < R ∧ y < R ∧
    PureAt [a.k, a.p] 24 [.slice ka l.length kc, .slice pa l.length pc'] (.tuple #[PV x y inf, I (e : Nat)]) ∧ PureAt [a.k, a.p] 25 [.slice ka l.length kc, .slice pa l.length pc'] (.tuple #[PV x y inf, I (e : Nat)]) := by
  have hz : (0 : Nat) < R := by decide
  rcases cases_bad l with hg | ⟨i, e, hb⟩
  · by_cases h0 : 0 < l.length
    · exact ⟨_, _, _, 0, ltR (ptX_lt _), ltR (ptY_lt _), f24_lin H hg h0, f25_good H hg h0⟩
    · have e : l.length = 0 := by omega
      rw [e]
      exact ⟨0, 0, true, 0, hz, hz, f24_zero.at _, f25_zero.at _⟩
  · exact ⟨0, 0, false, e, hz, hz, f24_bad H hb, f25_bad H hb⟩

def law5Recs (ka pa : Option Addr) (n m kc pc' x y e : Nat) (inf : Bool) (ni : List (Nat × Ent)) : List Rec :=
  [rn 11 (grX n 70) (.bool false), rn 15 (grX m 70) (.bool false), mc 24 [.slice ka n kc, .slice pa m pc'] ni (.tuple #[PV x y inf, I (e : Nat)]), mc 25 [.slice ka n kc, .slice pa m pc'] ni (.tuple #[PV x y inf, I (e : Nat)]), eqP 32 x y inf x y inf true, rn 36 (.bool (((e : Nat) : Int) == (e : Nat))) (.bool true), pc 23 [] (.bool true)]
/-- wardmotelaw03.CurveMany -/
theorem law5_of {need : List Ent} (hn : need.all (fun e => !e.own) = true) {ka pa : Option Addr} {n m kc pc' x y e : Nat} {inf : Bool} (h1 : n ≤ 70) (h2 : m ≤ 70) (hx : x < R) (hy : y < R) (ni : List (Nat × Ent)) (hni : ni.map (·.2) = need)
    (h24 : PureAt need 24 [.slice ka n kc, .slice pa m pc'] (.tuple #[PV x y inf, I (e : Nat)])) (h25 : PureAt need 25 [.slice ka n kc, .slice pa m pc'] (.tuple #[PV x y inf, I (e : Nat)]))
    (hraw : ∀ γ : Nat → Nat, outL Try.prog Try.f5.results.toList [] (exec Try.prog (Fx Try.f5) ⟨Ex.start Try.f5.ntmps [(.slice ka n kc, .at_ 0), (.slice pa m pc', .at_ 1)] need, (List.range 8).map γ,
        law5Recs ka pa n m kc pc' x y e inf ni, []⟩) =
      outR Try.prog Try.f5.results.toList [] (.bool true) (exec Try.prog (Fx Try.f5) ⟨Ex.start Try.f5.ntmps [(.slice ka n kc, .at_ 0), (.slice pa m pc', .at_ 1)] need, (List.range 8).map γ,
        law5Recs ka pa n m kc pc' x y e inf ni, []⟩)) :
    PureAt need 5 [.slice ka n kc, .slice pa m pc'] (.bool true) := by
  subst hni
  exact pureAt_of Try.func5 rfl 8 [(.slice ka n kc, .at_ 0), (.slice pa m pc', .at_ 1)] _ (law5Recs ka pa n m kc pc' x y e inf ni) _ hn
    (fun _ => ⟨rn_ok (grX_false h1), rn_ok (grX_false h2), mc_ok h24, mc_ok h25, eqP_ok hx hy hx hy (by simp), rn_ok (by simp), pc_ok f23_ok, trivial⟩) hraw
theorem law5_big {ka pa : Option Addr} {n m kc pc' : Nat} (h : 70 < n ∨ 70 < m) : Pure 5 [.slice ka n kc, .slice pa m pc'] (.bool true) := by
  by_cases h1 : 70 < n
  · exact pure_of Try.func5 rfl 8 [.slice ka n kc, .slice pa m pc'] [rn 11 (grX n 70) (.bool true), pc 23 [] (.bool true)] _ (fun _ => ⟨rn_ok (grX_true h1), pc_ok f23_ok, trivial⟩) (fun γ => by kernel_rfl)
  · exact pure_of Try.func5 rfl 8 [.slice ka n kc, .slice pa m pc'] [rn 11 (grX n 70) (.bool false), rn 15 (grX m 70) (.bool true), pc 23 [] (.bool true)] _ (fun _ => ⟨rn_ok (grX_false (by omega)), rn_ok (grX_true (by omega)), pc_ok f23_ok, trivial⟩) (fun γ => by kernel_rfl)
theorem law5_len {ka pa : Option Addr} {n m kc pc' : Nat} (h1 : n ≤ 70) (h2 : m ≤ 70) (h : n ≠ m ∨ 64 < n) : Pure 5 [.slice ka n kc, .slice pa m pc'] (.bool true) := fun w =>
  law5_of (need := []) rfl h1 h2 (e := 1) (by decide) (by decide) [] rfl ((f24_len h).at _) ((f25_len h).at _) (fun γ => by kernel_rfl) w (fun e he => by cases he)
theorem law5_eq {a : SmA} {l : List (Nat × W9)} {ka pa : Option Addr} {ko po kc pc' : Nat} (H : SmH a l ka ko pa po) : PureAt [a.k, a.p] 5 [.slice ka l.length kc, .slice pa l.length pc'] (.bool true) := by
  have hn := H.n
  obtain ⟨x, y, inf, e, hx, hy, h24, h25⟩ := both_sums (kc := kc) (pc' := pc') H
  generalize l.length = n at *
  exact law5_of (need := [a.k, a.p]) rfl (by omega) (by omega) hx hy [(0, a.k), (1, a.p)] rfl h24 h25 (fun γ => by kernel_rfl)

end Go.Proofs.Ytildcmggcbdhpaa
