/- The document's Value and Check; the law FeldValues, of slices as they come in. No conditions. -/
import Derived.Test.YtildcmggcbdhpaaFeldG
namespace Go.Proofs.Ytildcmggcbdhpaa
open Go.Ex Go.RowKit Lim
set_option maxRecDepth 100000

/-- as often as told -/
def mny (c : J) : Nat → J
  | 0 => ⟨0, 1, 0⟩
  | j + 1 => opl (mny c j) c
def rvJ (x : Nat) : List W9 → J
  | [] => ⟨0, 1, 0⟩
  | p :: l => opl (mny (rvJ x l) x) p.o
theorem mny_is {c : J} {A : Cp} (h : OO c A.1) (hl : c.lt) : ∀ j, OO (mny c j) (Cp.mul j A).1 ∧ (mny c j).lt
  | 0 => ⟨OO_inf, ⟨P_pos, (by decide : 1 < P), P_pos⟩⟩
  | j + 1 => by
    obtain ⟨h1, h2⟩ := mny_is h hl j
    exact ⟨OO_opl h1 h h2 hl, opl_lt h2 hl⟩
theorem rvJ_is (x : Nat) : ∀ l : List W9, (∀ p ∈ l, isPt p.x p.y p.inf = true) → OO (rvJ x l) (horC x l).1 ∧ (rvJ x l).lt
  | [], _ => ⟨OO_inf, ⟨P_pos, (by decide : 1 < P), P_pos⟩⟩
  | p :: l, hp => by
    obtain ⟨h1, h2⟩ := rvJ_is x l (fun q hq => hp q (List.mem_cons_of_mem _ hq))
    obtain ⟨h3, h4⟩ := mny_is h1 h2 x
    have hq := hp p (by simp)
    obtain ⟨hx, hy⟩ := valid_lt hq
    have ho : OO p.o (cpT p).1 := by rw [cpT_val hq]; exact oIn_OO p.x p.y p.inf
    have hol : p.o.lt := oIn_lt hx hy _
    exact ⟨OO_opl h3 ho h4 hol, opl_lt h4 hol⟩

noncomputable def rvO : Code := (loopsOf (Fx Try.f42)).getD 0 .skip
noncomputable def rvN : Code := (loopsOf (Fx Try.f42)).getD 1 .skip
def rvS (e : Ent) (pv : Value) (x : Nat) (gl : List Nat) (k : Nat) (c : J) : St :=
  ⟨frOf 59 [(0, pv), (1, I (x : Nat)), (4, PT (gl.getD 1 0)), (6, PT (gl.getD 2 0)), (7, V8 k)], tgOf 59 [(0, .at_ 0), (4, .at_ 1), (6, .at_ 2)], [e, ptE (gl.getD 1 0) 0 0 false, oE (gl.getD 2 0) c]⟩
def rvT (e : Ent) (pv : Value) (x k : Nat) (c : J) (gl : List Nat) (j : Nat) (m : J) : St :=
  ⟨frOf 59 [(0, pv), (1, I (x : Nat)), (4, PT (gl.getD 1 0)), (6, PT (gl.getD 2 0)), (7, I (k : Nat)), (8, PT (gl.getD 3 0)), (9, I (j : Nat))], tgOf 59 [(0, .at_ 0), (4, .at_ 1), (6, .at_ 2), (8, .at_ 3)], [e, ptE (gl.getD 1 0) 0 0 false, oE (gl.getD 2 0) c, oE (gl.getD 3 0) m]⟩
theorem rvT_go (e : Ent) (pv : Value) (x k j : Nat) (c m m' : J) (gl : List Nat) (γ : Nat → Nat) :
    Goes rvN (rvT e pv x k c gl j m) [rn 44 (lsX j x) (.bool true), pc 61 [jv m, jv c] (jv m'), rn 46 (adX j) (I (j + 1 : Nat))] γ .normal (rvT e pv x k c gl (j + 1) m') := by
  show _ = _; kernel_rfl
theorem rvT_out (e : Ent) (pv : Value) (x k : Nat) (c m : J) (gl : List Nat) (γ : Nat → Nat) :
    Goes rvN (rvT e pv x k c gl x m) [rn 44 (lsX x x) (.bool false)] γ (.exit 2) (rvT e pv x k c gl x m) := by
  show _ = _; kernel_rfl
noncomputable def rvI (e : Ent) (pv : Value) (x k : Nat) (c m : J) : Rec := .code rvN (fun gl => rvT e pv x k c gl 0 ⟨0, 1, 0⟩) (fun gl => rvT e pv x k c gl x m) (.exit 2)
theorem rvI_ok (e : Ent) (pv : Value) {x k : Nat} {c : J} (hx : x ≤ 10) (hc : c.lt) {A : Cp} (h : OO c A.1) {w0 : World} : (rvI e pv x k c (mny c x)).Ok Try.prog w0 :=
  scan_end (fun gl j => rvT e pv x k c gl j (mny c j)) _ 2 x (fun j hj => by
    have h61 := f61_ok (mny_is h hc j).2 hc
    exact ⟨[rn 44 (lsX j x) (.bool true), pc 61 [jv (mny c j), jv c] (jv (mny c (j + 1))), rn 46 (adX j) (I (j + 1 : Nat))], ⟨rn_ok (lsX_true hj), pc_ok h61, rn_ok (adX_eq (by omega)), trivial⟩, fun gl γ => rvT_go e pv x k j c _ _ gl γ⟩)
    ⟨[rn 44 (lsX x x) (.bool false)], ⟨rn_ok (lsX_false (Nat.le_refl _)), trivial⟩, fun gl γ => rvT_out e pv x k c _ gl γ⟩

noncomputable def rvR (e : Ent) (pv : Value) (off cap n x k : Nat) (p : W9) (c m o c' : J) : List Rec :=
  [rn 37 (geX k) (.bool true), pc 62 [PV 0 0 true] (jv ⟨0, 1, 0⟩), rvI e pv x k c m, ixF 53 40 e.g off n cap k (off + k * 9), ldF 54 0 e 26 (off + k * 9) (PV p.x p.y p.inf), pc 62 [PV p.x p.y p.inf] (jv o), pc 61 [jv m, jv o] (jv c'), rn 39 (decX k) (V8 k)]
theorem rv_go (e : Ent) (off cap n x k : Nat) (p : W9) (c m o c' : J) (gl : List Nat) (γ : Nat → Nat) :
    Goes rvO (rvS e (SL e.g off n cap) x gl (k + 1) c) (rvR e (SL e.g off n cap) off cap n x k p c m o c') γ .normal (rvS e (SL e.g off n cap) x gl k c') := by
  show _ = _; kernel_rfl
theorem rv_out (e : Ent) (pv : Value) (x : Nat) (c : J) (gl : List Nat) (γ : Nat → Nat) : Goes rvO (rvS e pv x gl 0 c) [] γ (.exit 0) (rvS e pv x gl 0 c) := by
  show _ = _; kernel_rfl
noncomputable def rvRec (e : Ent) (pv : Value) (x n : Nat) (c : J) : Rec := .code rvO (fun gl => rvS e pv x gl n ⟨0, 1, 0⟩) (fun gl => rvS e pv x gl 0 c) (.exit 0)

section
variable {pg off cap : Nat} {pc' : List Value} {pt' : TypeId} {l : List W9}
theorem rvRec_ok (H : PsH pc' off l) {x : Nat} (hx : x ≤ 10) (hp : ∀ p ∈ l, isPt p.x p.y p.inf = true) {w0 : World} : (rvRec (xE pg pc' pt') (SL pg off l.length cap) x l.length (rvJ x l)).Ok Try.prog w0 := by
  have e0 : rvJ x (l.drop l.length) = ⟨0, 1, 0⟩ := by rw [List.drop_length]; rfl
  have key : (Rec.code rvO (fun gl => rvS (xE pg pc' pt') (SL pg off l.length cap) x gl l.length (rvJ x (l.drop l.length))) (fun gl => rvS (xE pg pc' pt') (SL pg off l.length cap) x gl 0 (rvJ x l)) (.exit 0)).Ok Try.prog w0 := by
    refine Rec.ok_code follows (fun gl k => rvS (xE pg pc' pt') (SL pg off l.length cap) x gl k (rvJ x (l.drop k))) (fun k => k ≤ l.length) id (.exit 0) (fun gl => rvS (xE pg pc' pt') (SL pg off l.length cap) x gl 0 (rvJ x l)) (fun h => by cases h) l.length (Nat.le_refl _) (fun gl k hk => ?_)
    cases k with
    | zero =>
      refine .stop 8 [] (fun r hr => by cases hr) (fun γ => ?_)
      exact rv_out _ _ x (rvJ x l) gl γ
    | succ k =>
      have hn := H.n
      have hlt : k < l.length := hk
      obtain ⟨p, hq⟩ : ∃ p, l[k]? = some p := ⟨_, List.getElem?_eq_getElem hlt⟩
      have ed : l.drop k = p :: l.drop (k + 1) := by
        rw [List.drop_eq_getElem_cons hlt]
        congr 1
        rw [List.getElem?_eq_getElem hlt] at hq
        exact Option.some.inj hq
      obtain ⟨h1, h2⟩ := rvJ_is x (l.drop (k + 1)) (fun q hq => hp q (List.mem_of_mem_drop hq))
      have hm := mny_is h1 h2 x
      have hpp := hp p (List.mem_of_getElem? hq)
      obtain ⟨hxx, hyy⟩ := valid_lt hpp
      have hol : p.o.lt := oIn_lt hxx hyy _
      have hI := rvI_ok (xE pg pc' pt') (SL pg off l.length cap) (k := k) (w0 := w0) hx h2 h1
      have h61 := f61_ok hm.2 hol
      have h62 := f62_ok (x := p.x) (y := p.y) p.inf
      have h620 := f62_ok (x := 0) (y := 0) true
      refine .go k (by omega) (by simp) 8 (rvR (xE pg pc' pt') (SL pg off l.length cap) off cap l.length x k p (rvJ x (l.drop (k + 1))) (mny (rvJ x (l.drop (k + 1))) x) p.o (opl (mny (rvJ x (l.drop (k + 1))) x) p.o))
        (RecsOk.all ⟨rn_ok (geX_eq k), pc_ok h620, hI, ixF_ok sl40 sz26 hlt rfl, ldP_ok (H.at_ k p hq), pc_ok h62, pc_ok h61, rn_ok (decX_eq (by omega)), trivial⟩) (fun γ => ?_)
      have ec : rvJ x (l.drop k) = opl (mny (rvJ x (l.drop (k + 1))) x) p.o := by rw [ed]; rfl
      rw [ec]
      exact rv_go (xE pg pc' pt') off cap l.length x k p _ _ _ _ gl γ
  rw [e0] at key
  exact key

/-- wardmoteref07.Value -/
theorem f42_good (H : PsH pc' off l) (hd : deg l.length = true) {x : Nat} (hx : x ≤ 10) (hp : pts l = true) :
    PureAt [xE pg pc' pt'] 42 [SL pg off l.length cap, I (x : Nat)] (.tuple #[PVt (valC x l).1, I (0 : Nat)]) := by
  have hd' := deg_true hd
  have hn := H.n
  have h93 := f93_ok (pg := pg) (cap := cap) (pt' := pt') H
  rw [hp] at h93
  have hr := fun w0 : World => rvRec_ok (pg := pg) (cap := cap) (pt' := pt') (w0 := w0) H hx (pts_true hp)
  obtain ⟨h1, h2⟩ := rvJ_is x l (pts_true hp)
  rw [← valC_hor] at h1
  have h60 := f60_ok h1 h2
  have h620 := f62_ok (x := 0) (y := 0) true
  generalize rvJ x l = c at *
  generalize (valC x l).1 = S at *
  exact pureAt_of Try.func42 rfl 8 [(SL pg off l.length cap, .at_ 0), (I (x : Nat), .no)] [xE pg pc' pt'] [rn 12 (lsX l.length 1) (.bool false), rn 16 (grX l.length 10) (.bool false), rn 20 (ltZ x) (.bool false), rn 24 (gtT x) (.bool false), mc 93 [SL pg off l.length cap] [(0, xE pg pc' pt')] (.bool true),
      pc 62 [PV 0 0 true] (jv ⟨0, 1, 0⟩), rn 35 (decX l.length) (V8 l.length), rvRec (xE pg pc' pt') (SL pg off l.length cap) x l.length c, pc 60 [jv c] (PVt S)] _ rfl
    (fun w => ⟨rn_ok (lsX_false hd'.1), rn_ok (grX_false hd'.2), rn_ok (ltZ_false (by omega)), rn_ok (gtT_false (by omega)), mc_ok h93, pc_ok h620, rn_ok (decX_eq (by omega)), hr w, pc_ok h60, trivial⟩) (fun γ => by kernel_rfl)
theorem f42_bad (H : PsH pc' off l) (hd : deg l.length = true) {x : Nat} (hx : x ≤ 10) (hp : pts l = false) :
    PureAt [xE pg pc' pt'] 42 [SL pg off l.length cap, I (x : Nat)] (.tuple #[PV 0 0 false, I (30 : Nat)]) := by
  have hd' := deg_true hd
  have h93 := f93_ok (pg := pg) (cap := cap) (pt' := pt') H
  rw [hp] at h93
  exact pureAt_of Try.func42 rfl 8 [(SL pg off l.length cap, .at_ 0), (I (x : Nat), .no)] [xE pg pc' pt'] [rn 12 (lsX l.length 1) (.bool false), rn 16 (grX l.length 10) (.bool false), rn 20 (ltZ x) (.bool false), rn 24 (gtT x) (.bool false), mc 93 [SL pg off l.length cap] [(0, xE pg pc' pt')] (.bool false)] _ rfl
    (fun w => ⟨rn_ok (lsX_false hd'.1), rn_ok (grX_false hd'.2), rn_ok (ltZ_false (by omega)), rn_ok (gtT_false (by omega)), mc_ok h93, trivial⟩) (fun γ => by kernel_rfl)
end
theorem f42_arg {pa : Option Addr} {n cap : Nat} {x : Int} (h : deg n = false ∨ nod x = false) : Pure 42 [.slice pa n cap, I x] (.tuple #[PV 0 0 false, I (1 : Nat)]) := by
  by_cases h1 : n < 1
  · exact pure_of Try.func42 rfl 8 [.slice pa n cap, I x] [rn 12 (lsX n 1) (.bool true)] _ (fun w => ⟨rn_ok (lsX_true h1), trivial⟩) (fun γ => by kernel_rfl)
  · by_cases h2 : 10 < n
    · exact pure_of Try.func42 rfl 8 [.slice pa n cap, I x] [rn 12 (lsX n 1) (.bool false), rn 16 (grX n 10) (.bool true)] _ (fun w => ⟨rn_ok (lsX_false (by omega)), rn_ok (grX_true h2), trivial⟩) (fun γ => by kernel_rfl)
    · have hx : nod x = false := by
        rcases h with h | h
        · have := deg_false h; omega
        · exact h
      by_cases h0 : x < 0
      · exact pure_of Try.func42 rfl 8 [.slice pa n cap, I x] [rn 12 (lsX n 1) (.bool false), rn 16 (grX n 10) (.bool false), rn 20 (ltZ x) (.bool true)] _ (fun w => ⟨rn_ok (lsX_false (by omega)), rn_ok (grX_false (by omega)), rn_ok (ltZ_true h0), trivial⟩) (fun γ => by kernel_rfl)
      · have h3 : x > 10 := by have := nod_false hx; omega
        exact pure_of Try.func42 rfl 8 [.slice pa n cap, I x] [rn 12 (lsX n 1) (.bool false), rn 16 (grX n 10) (.bool false), rn 20 (ltZ x) (.bool false), rn 24 (gtT x) (.bool true)] _ (fun w => ⟨rn_ok (lsX_false (by omega)), rn_ok (grX_false (by omega)), rn_ok (ltZ_false h0), rn_ok (gtT_true h3), trivial⟩) (fun γ => by kernel_rfl)

section
variable {pg off cap : Nat} {pc' : List Value} {pt' : TypeId} {l : List W9}
/-- wardmoteref07.Check -/
theorem f44_good (H : PsH pc' off l) (hd : deg l.length = true) {x : Nat} (hx : x ≤ 10) (hp : pts l = true) {s : Nat} (hs : s < R) :
    PureAt [xE pg pc' pt'] 44 [SL pg off l.length cap, I (x : Nat), NV s] (I (chk s (valC x l) : Nat)) := by
  have h42 : PureAt [xE pg pc' pt'] 42 [SL pg off l.length cap, I (x : Nat)] (.tuple #[PV (wOf (valC x l).1).x (wOf (valC x l).1).y (wOf (valC x l).1).inf, I (0 : Nat)]) := f42_good (pg := pg) (cap := cap) (pt' := pt') H hd hx hp
  by_cases hq : s < Q
  · have h46 := fQ s hs (q := true) (decide_eq_true hq)
    have h91 := f91_ok hs
    have hc := com_lt s
    have hw : (wOf (valC x l).1).lt := ⟨ltR (ptX_lt _), ltR (ptY_lt _)⟩
    have hk : chk s (valC x l) = if same (com s) (wOf (valC x l).1) then 0 else 70 := if_pos hq
    rw [hk]
    generalize wOf (valC x l).1 = p at *
    generalize com s = c at *
    cases hsm : same c p with
    | true =>
      rw [if_pos rfl]
      exact pureAt_of Try.func44 rfl 8 [(SL pg off l.length cap, .at_ 0), (I (x : Nat), .no), (NV s, .no)] [xE pg pc' pt'] [mc 42 [SL pg off l.length cap, I (x : Nat)] [(0, xE pg pc' pt')] (.tuple #[PV p.x p.y p.inf, I (0 : Nat)]), pc 45 [] (FV Q CQ), pc 46 [FV Q CQ, NV s] (.bool true), pc 91 [NV s] (PV c.x c.y c.inf), neP 25 c.x c.y c.inf p.x p.y p.inf false] _ rfl
        (fun w => ⟨mc_ok h42, pc_ok f45_ok, pc_ok h46, pc_ok h91, neP_ok hc.1 hc.2 hw.1 hw.2 hsm, trivial⟩) (fun γ => by kernel_rfl)
    | false =>
      rw [if_neg (by simp)]
      exact pureAt_of Try.func44 rfl 8 [(SL pg off l.length cap, .at_ 0), (I (x : Nat), .no), (NV s, .no)] [xE pg pc' pt'] [mc 42 [SL pg off l.length cap, I (x : Nat)] [(0, xE pg pc' pt')] (.tuple #[PV p.x p.y p.inf, I (0 : Nat)]), pc 45 [] (FV Q CQ), pc 46 [FV Q CQ, NV s] (.bool true), pc 91 [NV s] (PV c.x c.y c.inf), neP 25 c.x c.y c.inf p.x p.y p.inf true] _ rfl
        (fun w => ⟨mc_ok h42, pc_ok f45_ok, pc_ok h46, pc_ok h91, neP_ok hc.1 hc.2 hw.1 hw.2 hsm, trivial⟩) (fun γ => by kernel_rfl)
  · have h46 := fQ s hs (q := false) (decide_eq_false hq)
    have hk : chk s (valC x l) = 20 := if_neg hq
    rw [hk]
    generalize wOf (valC x l).1 = p at *
    exact pureAt_of Try.func44 rfl 8 [(SL pg off l.length cap, .at_ 0), (I (x : Nat), .no), (NV s, .no)] [xE pg pc' pt'] [mc 42 [SL pg off l.length cap, I (x : Nat)] [(0, xE pg pc' pt')] (.tuple #[PV p.x p.y p.inf, I (0 : Nat)]), pc 45 [] (FV Q CQ), pc 46 [FV Q CQ, NV s] (.bool false)] _ rfl
      (fun w => ⟨mc_ok h42, pc_ok f45_ok, pc_ok h46, trivial⟩) (fun γ => by kernel_rfl)
theorem f44_bad (H : PsH pc' off l) (hd : deg l.length = true) {x : Nat} (hx : x ≤ 10) (hp : pts l = false) {s : Nat} :
    PureAt [xE pg pc' pt'] 44 [SL pg off l.length cap, I (x : Nat), NV s] (I (30 : Nat)) := by
  have h42 := f42_bad (pg := pg) (cap := cap) (pt' := pt') H hd hx hp
  exact pureAt_of Try.func44 rfl 8 [(SL pg off l.length cap, .at_ 0), (I (x : Nat), .no), (NV s, .no)] [xE pg pc' pt'] [mc 42 [SL pg off l.length cap, I (x : Nat)] [(0, xE pg pc' pt')] (.tuple #[PV 0 0 false, I (30 : Nat)])] _ rfl (fun w => ⟨mc_ok h42, trivial⟩) (fun γ => by kernel_rfl)
end
theorem f44_arg {pa : Option Addr} {n cap s : Nat} {x : Int} (h : deg n = false ∨ nod x = false) : Pure 44 [.slice pa n cap, I x, NV s] (I (1 : Nat)) := by
  have h42 := f42_arg (pa := pa) (cap := cap) h
  exact pure_of Try.func44 rfl 8 [.slice pa n cap, I x, NV s] [pc 42 [.slice pa n cap, I x] (.tuple #[PV 0 0 false, I (1 : Nat)])] _ (fun w => ⟨pc_ok h42, trivial⟩) (fun γ => by kernel_rfl)

def law12Recs (pv : Value) (x : Int) (s : Nat) (ni : List (Nat × Ent)) (X Y er ck : Nat) (inf : Bool) : List Rec :=
  [mc 41 [pv, I x] ni (.tuple #[PV X Y inf, I (er : Nat)]), mc 42 [pv, I x] ni (.tuple #[PV X Y inf, I (er : Nat)]), eqP 25 X Y inf X Y inf true, rn 29 (eqN er er) (.bool true), mc 43 [pv, I x, NV s] ni (I (ck : Nat)), mc 44 [pv, I x, NV s] ni (I (ck : Nat)), rn 40 (eqN ck ck) (.bool true), pc 40 [] (.bool true)]
/-- wardmotelaw07.FeldValues -/
theorem law12_at {pg off n cap : Nat} {pc' : List Value} {pt' : TypeId} {x : Int} {s X Y er ck : Nat} {inf : Bool} (hX : X < R) (hY : Y < R)
    (h41 : PureAt [xE pg pc' pt'] 41 [SL pg off n cap, I x] (.tuple #[PV X Y inf, I (er : Nat)])) (h42 : PureAt [xE pg pc' pt'] 42 [SL pg off n cap, I x] (.tuple #[PV X Y inf, I (er : Nat)]))
    (h43 : PureAt [xE pg pc' pt'] 43 [SL pg off n cap, I x, NV s] (I (ck : Nat))) (h44 : PureAt [xE pg pc' pt'] 44 [SL pg off n cap, I x, NV s] (I (ck : Nat))) : PureAt [xE pg pc' pt'] 12 [SL pg off n cap, I x, NV s] (.bool true) :=
  pureAt_of Try.func12 rfl 32 [(SL pg off n cap, .at_ 0), (I x, .no), (NV s, .no)] [xE pg pc' pt'] (law12Recs (SL pg off n cap) x s [(0, xE pg pc' pt')] X Y er ck inf) _ rfl
    (fun w => ⟨mc_ok h41, mc_ok h42, eqP_ok hX hY hX hY (by simp), rn_ok (eqN_true _), mc_ok h43, mc_ok h44, rn_ok (eqN_true _), pc_ok f40_ok, trivial⟩) (fun γ => by kernel_rfl)
theorem law12_arg {pa : Option Addr} {n cap s : Nat} {x : Int} (h : deg n = false ∨ nod x = false) : Pure 12 [.slice pa n cap, I x, NV s] (.bool true) :=
  pure_of Try.func12 rfl 32 [.slice pa n cap, I x, NV s] [pc 41 [.slice pa n cap, I x] (.tuple #[PV 0 0 false, I (1 : Nat)]), pc 42 [.slice pa n cap, I x] (.tuple #[PV 0 0 false, I (1 : Nat)]), eqP 25 0 0 false 0 0 false true, pc 43 [.slice pa n cap, I x, NV s] (I (1 : Nat)), pc 44 [.slice pa n cap, I x, NV s] (I (1 : Nat)), pc 40 [] (.bool true)] _
    (fun w => ⟨pc_ok (f41_arg h), pc_ok (f42_arg h), eqP_ok (by decide) (by decide) (by decide) (by decide) (by decide), pc_ok (f43_arg h), pc_ok (f44_arg h), pc_ok f40_ok, trivial⟩) (fun γ => by kernel_rfl)

theorem law12_calls {W : World} {v0 : Value} {x : Int} {s : Nat} (h0 : PtsIn W v0) (hs : s < R) : Calls Try.prog 12 #[v0, I x, NV s] W fun e w' => e = .returned (.bool true) ∧ Below W.heap.size W w' := by
  rcases h0 with ⟨a, cap, rfl⟩ | ⟨pg, po, pcap, pc', pt', l, hl0, rfl, hp, hpR, hpc⟩
  · exact law12_arg (n := 0) (.inl rfl) W
  · cases hd : deg l.length with
    | false => exact law12_arg (.inl hd) W
    | true =>
      cases hx : nod x with
      | false => exact law12_arg (.inr hx) W
      | true =>
        obtain ⟨m, rfl, hm⟩ := nod_true hx
        have H : PsH pc' po l := ⟨hpc, hpR, by have := (deg_true hd).2; omega⟩
        have hw : ∀ e ∈ [xE pg pc' pt'], e.holds W := fun e he => by
          simp only [List.mem_cons, List.not_mem_nil, or_false] at he
          subst he
          exact hp
        cases hs' : pts l with
        | true => exact law12_at (ltR (ptX_lt _)) (ltR (ptY_lt _)) (f41_good H hd hm hs') (f42_good H hd hm hs') (f43_good H hd hm hs' hs) (f44_good H hd hm hs' hs) W hw
        | false => exact law12_at (by decide) (by decide) (f41_bad H hd hm hs') (f42_bad H hd hm hs') (f43_bad H hd hm hs') (f44_bad H hd hm hs') W hw

end Go.Proofs.Ytildcmggcbdhpaa
