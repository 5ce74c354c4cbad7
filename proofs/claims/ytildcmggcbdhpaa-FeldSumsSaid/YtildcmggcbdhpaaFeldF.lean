/- feld.Value, feld.Check. No conditions but that the row's points stand where their values say. -/
import Derived.Test.YtildcmggcbdhpaaFeldE
import Derived.Test.YtildcmggcbdhpaaLawMany
namespace Go.Proofs.Ytildcmggcbdhpaa
open Go.Ex Go.RowKit Lim
set_option maxRecDepth 100000

def ltZ (x : Int) : Value := .bool (decide (x < 0))
theorem ltZ_true {x : Int} (h : x < 0) : ltZ x = .bool true := by unfold ltZ; rw [decide_eq_true h]
theorem ltZ_false {x : Int} (h : ¬ x < 0) : ltZ x = .bool false := by unfold ltZ; rw [decide_eq_false h]
def gtT (x : Int) : Value := .bool (decide (x > 10))
theorem gtT_true {x : Int} (h : x > 10) : gtT x = .bool true := by unfold gtT; rw [decide_eq_true h]
theorem gtT_false {x : Int} (h : ¬ x > 10) : gtT x = .bool false := by unfold gtT; rw [decide_eq_false h]

/-- a node's number -/
def nod (x : Int) : Bool := !decide (x < 0) && !decide (x > 10)
theorem nod_true {x : Int} (h : nod x = true) : ∃ m : Nat, x = (m : Int) ∧ m ≤ 10 := by
  simp [nod] at h
  exact ⟨x.toNat, by omega, by omega⟩
theorem nod_false {x : Int} (h : nod x = false) : x < 0 ∨ x > 10 := by
  simp [nod] at h
  omega
theorem nod_nat {m : Nat} (h : m ≤ 10) : nod (m : Int) = true := by simp [nod]; omega

def z4 : Array Value := #[.int .u64 0, .int .u64 0, .int .u64 0, .int .u64 0]
theorem elt39 : Elt Try.prog 39 24 4 32 z4 := ⟨sl39, by kernel_rfl, rfl, by decide, by decide⟩
def ncs (l : List Nat) : List Value := l.flatMap nl
theorem ncs_len : ∀ l : List Nat, (ncs l).length = l.length * 4
  | [] => rfl
  | k :: l => by show (nl k ++ ncs l).length = _; rw [List.length_append, ncs_len l, nl_len, List.length_cons]; omega
theorem ncs_snoc (l : List Nat) (k : Nat) : ncs (l ++ [k]) = ncs l ++ nl k := by simp [ncs]
theorem nl_one (k : Nat) : ∀ u ∈ nl k, u.oneCell' = true := by
  intro u hu
  simp only [nl, List.mem_cons, List.not_mem_nil, or_false] at hu
  rcases hu with rfl | rfl | rfl | rfl <;> rfl

/-- powers of a node's number -/
def pw (x : Nat) : Nat → Nat
  | 0 => 1
  | i + 1 => pw x i * x % Q
def pws (x n : Nat) : List Nat := (List.range n).map (pw x)
theorem pw_lt (x : Nat) : ∀ i, pw x i < Q
  | 0 => (by decide : 1 < Q)
  | i + 1 => Nat.mod_lt _ (by decide)
theorem pws_len (x n : Nat) : (pws x n).length = n := by simp [pws]
theorem pws_succ (x i : Nat) : pws x (i + 1) = pws x i ++ [pw x i] := by simp [pws, List.range_succ]
theorem pws_get {x n i k : Nat} (h : (pws x n)[i]? = some k) : k < Q := by
  have := List.mem_of_getElem? h
  unfold pws at this
  rw [List.mem_map] at this
  obtain ⟨j, _, rfl⟩ := this
  exact pw_lt x j

/-- a node's number, as a scalar -/
def NX (x : Nat) : Value := .agg #[U x, U 0, U 0, U 0]
theorem NX_eq {x : Nat} (h : x ≤ 10) : NX x = NV x := by
  have hb : x < B := Nat.lt_of_le_of_lt h (by decide)
  unfold NX NV l0 l1 l2 l3
  rw [Nat.div_eq_of_lt hb, Nat.mod_eq_of_lt hb]
  rfl
def cvN (d x : Nat) : Rec := opF d (convert 3 22 (I (x : Nat))) (U x)
theorem cvN_ok {w0 : World} {d x : Nat} (h : x ≤ 10) : (cvN d x).Ok Try.prog w0 := opF_ok fun w => by
  have h1 : (convert 3 22 (I (x : Nat))).run Try.prog w = .ok (.int .u64 (IntKind.u64.wrap (x : Int))) w := by kernel_rfl
  have : IntKind.u64.wrap (x : Int) = (x : Int) := by
    simp [IntKind.wrap, IntKind.signed, IntKind.bits]
    omega
  rw [h1, this]

def prE (g : Nat) (cs : List Value) : Ent := ⟨g, cs, [], 24, true⟩
noncomputable def vaL : Code := (loopsOf (Fx Try.f41)).getD 0 .skip
def vaH (e : Ent) (r m f o p : Nat) : List Ent := [e, ptE r 0 0 false, montO m Q Q2 Qi, fieldE f m Q 0 [] true, numE o p true]
def va0 (e : Ent) (pv : Value) (x n : Nat) (gl : List Nat) : St :=
  ⟨frOf 47 [(0, pv), (1, I (x : Nat)), (4, PT (gl.getD 1 0)), (6, PT (gl.getD 3 0)), (7, PT (gl.getD 4 0)), (8, .slice none 0 0), (25, I (n : Nat)), (26, I (0 : Nat))], tgOf 47 [(0, .at_ 0), (4, .at_ 1), (6, .at_ 3), (7, .at_ 4)], vaH e (gl.getD 1 0) (gl.getD 2 0) (gl.getD 3 0) (gl.getD 4 0) 1⟩
def vaS (e : Ent) (pv : Value) (x n i p : Nat) (cs : List Value) (g room : Nat) (gl : List Nat) : St :=
  ⟨frOf 47 [(0, pv), (1, I (x : Nat)), (4, PT (gl.getD 1 0)), (6, PT (gl.getD 3 0)), (7, PT (gl.getD 4 0)), (8, SL g 0 i (i + room)), (25, I (n : Nat)), (26, I (i : Nat))], tgOf 47 [(0, .at_ 0), (4, .at_ 1), (6, .at_ 3), (7, .at_ 4), (8, .at_ 5)],
    vaH e (gl.getD 1 0) (gl.getD 2 0) (gl.getD 3 0) (gl.getD 4 0) p ++ [prE g cs]⟩
def vaZ (e : Ent) (pv : Value) (n p : Nat) (cs : List Value) (g cap : Nat) (gl : List Nat) : St :=
  ⟨frOf 47 [(0, pv), (4, PT (gl.getD 1 0)), (8, SL g 0 n cap)], tgOf 47 [(0, .at_ 0), (4, .at_ 1), (8, .at_ 5)], vaH e (gl.getD 1 0) (gl.getD 2 0) (gl.getD 3 0) (gl.getD 4 0) p ++ [prE g cs]⟩
def vaTl (x p p' i : Nat) : List Rec := [cvN 36 x, qo 31 2 [NV p, NX x] (.tuple #[NV p', I 0]), rn 41 (adX i) (I (i + 1 : Nat))]
theorem va_go0 (e : Ent) (pv : Value) (x n p' : Nat) (gl : List Nat) (γ : Nat → Nat) :
    Goes vaL (va0 e pv x n gl) (rn 27 (lsX 0 n) (.bool true) :: ap0 31 1 39 39 24 24 z4 5 1 (nl 1) :: vaTl x 1 p' 0) γ .normal (vaS e pv x n 1 p' (nl 1 ++ zs z4 (γ 2)) (γ 1) (γ 2) gl) := by
  show _ = _; kernel_rfl
theorem va_go (e : Ent) (pv : Value) (x n i p p' : Nat) (xs : List Value) (g room : Nat) (gl : List Nat) (γ : Nat → Nat) :
    Goes vaL (vaS e pv x n i p (xs ++ zs z4 room) g room gl) (rn 27 (lsX i n) (.bool true) :: apF 31 39 39 24 24 z4 5 6 i 1 room xs (nl p) :: vaTl x p p' i) γ .normal (vaS e pv x n (i + 1) p' (xs ++ (nl p ++ zs z4 (γ 2))) (γ 1) (γ 2) gl) := by
  show _ = _; kernel_rfl
theorem va_out (e : Ent) (pv : Value) (x n p : Nat) (cs : List Value) (g room : Nat) (gl : List Nat) (γ : Nat → Nat) :
    Goes vaL (vaS e pv x n n p cs g room gl) [rn 27 (lsX n n) (.bool false)] γ (.exit 0) (vaZ e pv n p cs g (n + room) gl) := by
  show _ = _; kernel_rfl

abbrev VaI := Nat × Nat × Nat
def vaI (e : Ent) (pv : Value) (x n : Nat) (gl : List Nat) (s : VaI) : St := match s with
  | (0, _) => va0 e pv x n gl
  | (i + 1, g, room) => vaS e pv x n (i + 1) (pw x (i + 1)) (ncs (pws x (i + 1)) ++ zs z4 room) g room gl
noncomputable def vaRec (e : Ent) (pv : Value) (x n : Nat) : Rec :=
  .codeN vaL 2 (fun gl => va0 e pv x n gl) (fun gl δ => vaZ e pv n (pw x n) (ncs (pws x n) ++ zs z4 (δ 1 - n)) (δ 0) (δ 1) gl) (.exit 0)
theorem vaTl_ok {w0 : World} {x i : Nat} (hx : x ≤ 10) (hi : i < 1000) : RecsOk w0 (vaTl x (pw x i) (pw x (i + 1)) i) := by
  have h31 := fun g h => f31_ok (g := g) (h := h) (root := 0) montQ (pw_lt x i) (show x < Q from Nat.lt_of_le_of_lt hx (by decide))
  rw [← NX_eq hx] at h31
  exact ⟨cvN_ok hx, qo_ok h31, rn_ok (adX_eq (by omega)), trivial⟩
theorem vaRec_ok (e : Ent) (pv : Value) {x n : Nat} (hx : x ≤ 10) (hn : n ≤ 64) (h0 : 0 < n) {w0 : World} : (vaRec e pv x n).Ok Try.prog w0 := by
  refine Rec.ok_codeN follows (fun gl => vaI e pv x n gl) (fun s => s.1 ≤ n) (fun s => n - s.1) (.exit 0) 2 (fun gl δ => vaZ e pv n (pw x n) (ncs (pws x n) ++ zs z4 (δ 1 - n)) (δ 0) (δ 1) gl) (fun h => by cases h) (0, 0, 0) (Nat.zero_le _) (fun gl s hk => ?_)
  obtain ⟨i, g, room⟩ := s
  have hk' : i ≤ n := hk
  by_cases hlt : i < n
  · cases i with
    | zero =>
      refine .go (fun γ => (1, γ 1, γ 2)) (fun γ => by show 1 ≤ n; omega) (fun γ => by show n - 1 < n - 0; omega) 8 (rn 27 (lsX 0 n) (.bool true) :: ap0 31 1 39 39 24 24 z4 5 1 (nl 1) :: vaTl x 1 (pw x 1) 0)
        (RecsOk.all ⟨rn_ok (lsX_true hlt), ap0_ok elt39 (by decide) (nl_len _) (by decide) (by decide), vaTl_ok (i := 0) hx (by omega)⟩) (fun γ => ?_)
      show Goes vaL (va0 e pv x n gl) _ γ .normal (vaS e pv x n 1 (pw x 1) (nl 1 ++ zs z4 (γ 2)) (γ 1) (γ 2) gl)
      exact va_go0 e pv x n (pw x 1) gl γ
    | succ i =>
      have hxl : (ncs (pws x (i + 1))).length = (i + 1) * 4 := by rw [ncs_len, pws_len]
      refine .go (fun γ => (i + 2, γ 1, γ 2)) (fun γ => by show i + 2 ≤ n; omega) (fun γ => by show n - (i + 2) < n - (i + 1); omega) 8 (rn 27 (lsX (i + 1) n) (.bool true) :: apF 31 39 39 24 24 z4 5 6 (i + 1) 1 room (ncs (pws x (i + 1))) (nl (pw x (i + 1))) :: vaTl x (pw x (i + 1)) (pw x (i + 2)) (i + 1))
        (RecsOk.all ⟨rn_ok (lsX_true hlt), apF_ok elt39 (by decide) hxl (nl_len _) (nl_one _) (by omega) (by omega), vaTl_ok (i := i + 1) hx (by omega)⟩) (fun γ => ?_)
      show Goes vaL (vaS e pv x n (i + 1) (pw x (i + 1)) (ncs (pws x (i + 1)) ++ zs z4 room) g room gl) _ γ .normal (vaS e pv x n (i + 2) (pw x (i + 2)) (ncs (pws x (i + 2)) ++ zs z4 (γ 2)) (γ 1) (γ 2) gl)
      rw [pws_succ x (i + 1), ncs_snoc, List.append_assoc]
      exact va_go e pv x n (i + 1) (pw x (i + 1)) (pw x (i + 2)) (ncs (pws x (i + 1))) g room gl γ
  · have e1 : i = n := by omega
    cases i with
    | zero => omega
    | succ i =>
      refine .stop (fun _ q => if q = 0 then g else if q = 1 then n + room else 0) (fun _ q hq => by rw [if_neg (by omega), if_neg (by omega)]) 8 [rn 27 (lsX n n) (.bool false)] (RecsOk.all ⟨rn_ok (lsX_false (Nat.le_refl _)), trivial⟩) (fun γ => ?_)
      show Goes vaL (vaS e pv x n (i + 1) (pw x (i + 1)) (ncs (pws x (i + 1)) ++ zs z4 room) g room gl) _ γ (.exit 0) (vaZ e pv n (pw x n) (ncs (pws x n) ++ zs z4 (n + room - n)) g (n + room) gl)
      rw [e1, Nat.add_sub_cancel_left]
      exact va_out e pv x n (pw x n) (ncs (pws x n) ++ zs z4 room) g room gl γ

def vaC (e : Ent) (pv : Value) (n : Nat) (ns : List Value) (v : Value) : Rec :=
  ec (some 44) [] 24 (fun σ => [SL (σ 0) 0 n (σ 10000), pv]) (fun σ => [(5, prE (σ 0) (ns ++ zs z4 (σ 10000 - n))), (0, e)]) v
theorem f41_raw (pg off n cap x : Nat) (pc' : List Value) (pt' : TypeId) (X Y er : Nat) (inf : Bool) (γ : Nat → Nat) :
    outL Try.prog Try.f41.results.toList [] (exec Try.prog (Fx Try.f41) ⟨Ex.start Try.f41.ntmps [(SL pg off n cap, .at_ 0), (I (x : Nat), .no)] [xE pg pc' pt'], (List.range 8).map γ,
        [pc 92 [I n] (.bool true), rn 15 (ltZ x) (.bool false), rn 19 (gtT x) (.bool false), qb 2, vaRec (xE pg pc' pt') (SL pg off n cap) x n, vaC (xE pg pc' pt') (SL pg off n cap) n (ncs (pws x n)) (.tuple #[PV X Y inf, I (er : Nat)])], []⟩) =
      outR Try.prog Try.f41.results.toList [] (.tuple #[PV X Y inf, I (er : Nat)]) (exec Try.prog (Fx Try.f41) ⟨Ex.start Try.f41.ntmps [(SL pg off n cap, .at_ 0), (I (x : Nat), .no)] [xE pg pc' pt'], (List.range 8).map γ,
        [pc 92 [I n] (.bool true), rn 15 (ltZ x) (.bool false), rn 19 (gtT x) (.bool false), qb 2, vaRec (xE pg pc' pt') (SL pg off n cap) x n, vaC (xE pg pc' pt') (SL pg off n cap) n (ncs (pws x n)) (.tuple #[PV X Y inf, I (er : Nat)])], []⟩) := by kernel_rfl

section
variable {pg off cap : Nat} {pc' : List Value} {pt' : TypeId} {l : List W9}
theorem vaSm (H : PsH pc' off l) (x g room : Nat) : SmH ⟨g, ncs (pws x l.length) ++ zs z4 room, 24, pg, pc', pt'⟩ ((pws x l.length).zip l) (some ⟨g, 0, none⟩) 0 (some ⟨pg, off, none⟩) off :=
  SmH.zip (a := ⟨g, ncs (pws x l.length) ++ zs z4 room, 24, pg, pc', pt'⟩) (pws_len _ _) (by rw [pws_len]; exact H.n) (fun k hk => by
    obtain ⟨i, hi⟩ := List.getElem?_of_mem hk
    exact Nat.lt_trans (pws_get hi) Q_R) H.lt (fun i k hk j v hv => by
      have h1 := flat_get (f := nl) (c := 4) (fun _ => rfl) _ i j k v hk hv
      show (ncs (pws x l.length) ++ zs z4 room)[0 + i * 4 + j]? = some v
      rw [Nat.zero_add]
      unfold ncs
      rw [List.getElem?_append_left (lt_of_get h1)]
      exact h1) H.at_

theorem f41_of (H : PsH pc' off l) (hd : deg l.length = true) {x : Nat} (hx : x ≤ 10) {X Y er : Nat} {inf : Bool}
    (h24 : ∀ g room c, PureAt [xE g (ncs (pws x l.length) ++ zs z4 room) 24, xE pg pc' pt'] 24 [SL g 0 l.length c, SL pg off l.length cap] (.tuple #[PV X Y inf, I (er : Nat)])) :
    PureAt [xE pg pc' pt'] 41 [SL pg off l.length cap, I (x : Nat)] (.tuple #[PV X Y inf, I (er : Nat)]) := by
  have h92 := f92_ok (n := l.length)
  rw [hd] at h92
  have hc : ∀ w0 : World, (vaC (xE pg pc' pt') (SL pg off l.length cap) l.length (ncs (pws x l.length)) (.tuple #[PV X Y inf, I (er : Nat)])).Ok Try.prog w0 := fun w0 => by
    refine ec_ok Try.func24 (by kernel_rfl) rfl (fun σ => ?_)
    refine (h24 (σ 0) (σ 10000 - l.length) (σ 10000)).of fun w hw e he => ?_
    simp only [List.mem_cons, List.not_mem_nil, or_false] at he
    rcases he with rfl | rfl
    · exact (hw (prE (σ 0) (ncs (pws x l.length) ++ zs z4 (σ 10000 - l.length))) (by simp)).weak rfl rfl rfl rfl
    · exact hw (xE pg pc' pt') (by simp)
  exact pureAt_of Try.func41 rfl 8 [(SL pg off l.length cap, .at_ 0), (I (x : Nat), .no)] [xE pg pc' pt'] [pc 92 [I l.length] (.bool true), rn 15 (ltZ x) (.bool false), rn 19 (gtT x) (.bool false), qb 2, vaRec (xE pg pc' pt') (SL pg off l.length cap) x l.length, vaC (xE pg pc' pt') (SL pg off l.length cap) l.length (ncs (pws x l.length)) (.tuple #[PV X Y inf, I (er : Nat)])] _ rfl
    (fun w => ⟨pc_ok h92, rn_ok (ltZ_false (by omega)), rn_ok (gtT_false (by omega)), qb_ok, vaRec_ok _ _ hx H.n (deg_true hd).1, hc w, trivial⟩) (fun γ => f41_raw pg off l.length cap x pc' pt' X Y er inf γ)

/-- what commitments tell of a node's number -/
noncomputable def valC (x : Nat) (l : List W9) : Cp := Cp.lin (cl ((pws x l.length).zip l))
/-- feld.Value -/
theorem f41_good (H : PsH pc' off l) (hd : deg l.length = true) {x : Nat} (hx : x ≤ 10) (hp : pts l = true) :
    PureAt [xE pg pc' pt'] 41 [SL pg off l.length cap, I (x : Nat)] (.tuple #[PVt (valC x l).1, I (0 : Nat)]) := by
  refine f41_of H hd hx (fun g room c => ?_)
  have hl : ((pws x l.length).zip l).length = l.length := by rw [List.length_zip, pws_len, Nat.min_self]
  have h := f24_lin (kc := c) (pc := cap) (vaSm (pg := pg) (pt' := pt') H x g room) (fun q hq => by
    obtain ⟨i, hi⟩ := List.getElem?_of_mem hq
    obtain ⟨h1, h2⟩ := zip_get _ _ _ _ hi
    exact ⟨pws_get h1, pts_true hp _ (List.mem_of_getElem? h2)⟩) (by rw [hl]; exact (deg_true hd).1)
  rw [hl] at h
  exact h
theorem f41_bad (H : PsH pc' off l) (hd : deg l.length = true) {x : Nat} (hx : x ≤ 10) (hp : pts l = false) :
    PureAt [xE pg pc' pt'] 41 [SL pg off l.length cap, I (x : Nat)] (.tuple #[PV 0 0 false, I (30 : Nat)]) := by
  refine f41_of H hd hx (fun g room c => ?_)
  have hl : ((pws x l.length).zip l).length = l.length := by rw [List.length_zip, pws_len, Nat.min_self]
  rcases all_or W9.ok l with hg | ⟨i, p, h1, h2, h3⟩
  · rw [pts_of hg] at hp; cases hp
  · have hi := lt_of_get h1
    obtain ⟨k, hk⟩ : ∃ k, (pws x l.length)[i]? = some k := ⟨_, List.getElem?_eq_getElem (by rw [pws_len]; exact hi)⟩
    have h := f24_bad (kc := c) (pc := cap) (vaSm (pg := pg) (pt' := pt') H x g room) (i0 := i) (e := 30) ⟨fun j q hj hq => by
      obtain ⟨q1, q2⟩ := zip_get _ _ _ _ hq
      exact ⟨pws_get q1, h3 j q.2 hj q2⟩, (k, p), by
        rw [List.getElem?_zip_eq_some]
        exact ⟨hk, h1⟩, .inr ⟨pws_get hk, h2, rfl⟩⟩
    rw [hl] at h
    exact h
end
theorem f41_arg {pa : Option Addr} {n cap : Nat} {x : Int} (h : deg n = false ∨ nod x = false) : Pure 41 [.slice pa n cap, I x] (.tuple #[PV 0 0 false, I (1 : Nat)]) := by
  have h92 := f92_ok (n := n)
  cases hd : deg n with
  | false =>
    rw [hd] at h92
    exact pure_of Try.func41 rfl 8 [.slice pa n cap, I x] [pc 92 [I n] (.bool false)] _ (fun w => ⟨pc_ok h92, trivial⟩) (fun γ => by kernel_rfl)
  | true =>
    rw [hd] at h92
    have hx : nod x = false := by
      rcases h with h | h
      · rw [hd] at h; cases h
      · exact h
    by_cases h0 : x < 0
    · exact pure_of Try.func41 rfl 8 [.slice pa n cap, I x] [pc 92 [I n] (.bool true), rn 15 (ltZ x) (.bool true)] _ (fun w => ⟨pc_ok h92, rn_ok (ltZ_true h0), trivial⟩) (fun γ => by kernel_rfl)
    · have h1 : x > 10 := by have := nod_false hx; omega
      exact pure_of Try.func41 rfl 8 [.slice pa n cap, I x] [pc 92 [I n] (.bool true), rn 15 (ltZ x) (.bool false), rn 19 (gtT x) (.bool true)] _ (fun w => ⟨pc_ok h92, rn_ok (ltZ_false h0), rn_ok (gtT_true h1), trivial⟩) (fun γ => by kernel_rfl)

end Go.Proofs.Ytildcmggcbdhpaa
