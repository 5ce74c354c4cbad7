/- feld.Commit and the document's: each polynomial's commitments. No conditions but that the row's numbers stand where their values say. -/
import Derived.Test.YtildcmggcbdhpaaFeldC
namespace Go.Proofs.Ytildcmggcbdhpaa
open Go.Ex Go.RowKit Lim
set_option maxRecDepth 100000

/-- a call that makes blocks and looks at some -/
def MakesAt (need : List Ent) (f : FuncId) (args : List Value) (k : Nat) (val : (Nat → Nat) → Value) (news : (Nat → Nat) → List Ent) : Prop :=
  ∀ w : World, (∀ e ∈ need, e.holds w) → Calls Try.prog f args.toArray w fun e w' => ∃ δ : Nat → Nat, (∀ q, k ≤ q → δ q = 0) ∧ e = .returned (val δ) ∧ Below w.heap.size w w' ∧
    (∀ e ∈ news δ, e.holds w' ∧ w.heap.size ≤ e.g) ∧ (news δ).Pairwise (fun a b => a.g ≠ b.g)
def na (f : FuncId) (args : List Value) (need : List (Nat × Ent)) (k : Nat) (val : (Nat → Nat) → Value) (news : (Nat → Nat) → List Ent) (tag : Tag) : Rec := .call f (fun _ => args) (fun _ => need) k val news tag
theorem na_ok {w : World} {f : FuncId} {args : List Value} {need : List (Nat × Ent)} {k : Nat} {val : (Nat → Nat) → Value} {news : (Nat → Nat) → List Ent} {tag : Tag} (h : MakesAt (need.map (·.2)) f args k val news) : (na f args need k val news tag).Ok Try.prog w := fun _ w _ hn => h w fun e he => by
  rw [List.mem_map] at he
  obtain ⟨p, hp, rfl⟩ := he
  exact hn p hp

theorem fG (k : Nat) : wOf (Cp.mul k Cp.g).1 = ⟨ptX (Cp.mul k Cp.g).1, ptY (Cp.mul k Cp.g).1, ptI (Cp.mul k Cp.g).1⟩ := rfl
/-- a number times G, as it is written -/
noncomputable def com (k : Nat) : W9 := wOf (Cp.mul k Cp.g).1
theorem com_lt (k : Nat) : (com k).lt := ⟨ltR (ptX_lt _), ltR (ptY_lt _)⟩
theorem com_is (k : Nat) : isPt (com k).x (com k).y (com k).inf = true := on_valid (Cp.mul k Cp.g).2

/-- feld.Commit's function -/
theorem f90_ok {k : Nat} (hk : k < Q) : Pure 90 [NV k] (.tuple #[PV (com k).x (com k).y (com k).inf, I 0]) := by
  have h : Pure 26 [NV k, PV GX GY false] (.tuple #[PV (com k).x (com k).y (com k).inf, I 0]) := f26_yes (p := ⟨GX, GY, false⟩) hk G_is
  generalize com k = p at *
  exact pure_of Try.func90 rfl 8 [NV k] [pc 71 [] (PV GX GY false), pc 26 [NV k, PV GX GY false] (.tuple #[PV p.x p.y p.inf, I 0])] _ (fun _ => ⟨pc_ok f71_ok, pc_ok h, trivial⟩) (fun γ => by kernel_rfl)
/-- wardmoteref07.Times -/
theorem f91_ok {k : Nat} (hk : k < R) : Pure 91 [NV k] (PV (com k).x (com k).y (com k).inf) := by
  have h62 := f62_ok (x := GX) (y := GY) false
  have hlt : (oIn GX GY false).lt := oIn_lt (by decide) (by decide) _
  have h75 := f75_ok (k := k) hlt
  obtain ⟨h1, h2⟩ := f75_cp (k := k) (a := Cp.g) (oIn_OO GX GY false) hlt hk
  have h60 : Pure 60 [jv (Cp.tmS k (oIn GX GY false) 256)] (PV (com k).x (com k).y (com k).inf) := f60_ok h1 h2
  generalize com k = p at *
  generalize Cp.tmS k (oIn GX GY false) 256 = t at *
  generalize oIn GX GY false = o at *
  exact pure_of Try.func91 rfl 8 [NV k] [pc 72 [] (PV GX GY false), pc 62 [PV GX GY false] (jv o), pc 75 [NV k, jv o] (jv t), pc 60 [jv t] (PV p.x p.y p.inf)] _ (fun _ => ⟨pc_ok f72_ok, pc_ok h62, pc_ok h75, pc_ok h60, trivial⟩) (fun γ => by kernel_rfl)

def z9 : Array Value := #[.int .u64 0, .int .u64 0, .int .u64 0, .int .u64 0, .int .u64 0, .int .u64 0, .int .u64 0, .int .u64 0, .bool false]
theorem elt40 : Elt Try.prog 40 26 9 72 z9 := ⟨sl40, by kernel_rfl, rfl, by decide, by decide⟩
/-- points in a row, as they are written -/
def wcs (l : List W9) : List Value := l.flatMap W9.l
theorem wcs_len : ∀ l : List W9, (wcs l).length = l.length * 9
  | [] => rfl
  | p :: l => by show (W9.l p ++ wcs l).length = _; rw [List.length_append, wcs_len l, w9_len, List.length_cons]; omega
theorem wcs_snoc (l : List W9) (p : W9) : wcs (l ++ [p]) = wcs l ++ W9.l p := by simp [wcs]
theorem w9_one (p : W9) : ∀ u ∈ W9.l p, u.oneCell' = true := by
  intro u hu
  simp only [W9.l, List.mem_cons, List.not_mem_nil, or_false] at hu
  rcases hu with rfl | rfl | rfl | rfl | rfl | rfl | rfl | rfl | rfl <;> rfl
theorem PsH.flat {l : List W9} (room : Nat) (hl : ∀ p ∈ l, p.lt) (hn : l.length ≤ 64) : PsH (wcs l ++ zs z9 room) 0 l where
  at_ := fun i p hp j v hv => by
    have h1 := flat_get (f := W9.l) (c := 9) (fun _ => rfl) l i j p v hp hv
    rw [Nat.zero_add]
    unfold wcs
    rw [List.getElem?_append_left (lt_of_get h1)]
    exact h1
  lt := hl
  n := hn

def rowE (g : Nat) (xs : List Value) (room : Nat) : Ent := ⟨g, xs ++ zs z9 room, [], 26, true⟩
def p9E (g : Nat) (p : W9) : Ent := ⟨g, W9.l p, [], 26, true⟩

/-- feld.each, of numbers -/
noncomputable def eaL : Code := (loopsOf (Fx Try.f89)).getD 0 .skip
def ea0 (e : Ent) (kv : Value) (n : Nat) : St := ⟨frOf 32 [(1, FU 90), (6, .slice none 0 0), (11, kv), (12, I (n : Nat)), (13, I (0 : Nat))], tgOf 32 [(11, .at_ 0)], [e]⟩
def eaS (e : Ent) (kv : Value) (n i k0 : Nat) (p0 : W9) (cs : List Value) (g1 g2 g room : Nat) : St :=
  ⟨frOf 32 [(1, FU 90), (6, SL g 0 i (i + room)), (11, kv), (12, I (n : Nat)), (13, I (i : Nat))], tgOf 32 [(6, .at_ 3), (11, .at_ 0)], [e, numE g1 k0 true, p9E g2 p0, ⟨g, cs, [], 26, true⟩]⟩
def eaZ (e : Ent) (n k0 : Nat) (p0 : W9) (cs : List Value) (g1 g2 g cap : Nat) : St :=
  ⟨frOf 32 [(6, SL g 0 n cap)], tgOf 32 [(6, .at_ 3)], [e, numE g1 k0 true, p9E g2 p0, ⟨g, cs, [], 26, true⟩]⟩
def eaHd (e : Ent) (off cap n i k : Nat) (p : W9) : List Rec := [rn 14 (lsX i n) (.bool true), ixF 15 39 e.g off n cap i (off + i * 4), ldF 16 0 e 24 (off + i * 4) (NV k), pc 90 [NV k] (.tuple #[PV p.x p.y p.inf, I 0])]
theorem ea_go0 (e : Ent) (off cap n k : Nat) (p : W9) (γ : Nat → Nat) :
    Goes eaL (ea0 e (SL e.g off n cap) n) (eaHd e off cap n 0 k p ++ [ap0 29 1 40 40 26 26 z9 3 1 (W9.l p), rn 30 (adX 0) (I 1)]) γ .normal (eaS e (SL e.g off n cap) n 1 k p (W9.l p ++ zs z9 (γ 4)) (γ 0) (γ 1) (γ 3) (γ 4)) := by
  show _ = _; kernel_rfl
theorem ea_go (e : Ent) (off cap n i k k0 : Nat) (p p0 : W9) (xs : List Value) (g1 g2 g room : Nat) (γ : Nat → Nat) :
    Goes eaL (eaS e (SL e.g off n cap) n i k0 p0 (xs ++ zs z9 room) g1 g2 g room) (eaHd e off cap n i k p ++ [apF 29 40 40 26 26 z9 3 6 i 1 room xs (W9.l p), rn 30 (adX i) (I (i + 1 : Nat))]) γ .normal (eaS e (SL e.g off n cap) n (i + 1) k0 p0 (xs ++ (W9.l p ++ zs z9 (γ 4))) g1 g2 (γ 3) (γ 4)) := by
  show _ = _; kernel_rfl
theorem ea_out (e : Ent) (kv : Value) (n k0 : Nat) (p0 : W9) (cs : List Value) (g1 g2 g room : Nat) (γ : Nat → Nat) :
    Goes eaL (eaS e kv n n k0 p0 cs g1 g2 g room) [rn 14 (lsX n n) (.bool false)] γ (.exit 0) (eaZ e n k0 p0 cs g1 g2 g (n + room)) := by
  show _ = _; kernel_rfl

section
variable {kg off cap : Nat} {kc : List Value} {kt : TypeId} {l : List Nat}
theorem eaHd_ok (H : NsH kc off l) (hs : scal l = true) {w0 : World} {i k : Nat} (hq : l[i]? = some k) : RecsOk w0 (eaHd (xE kg kc kt) off cap l.length i k (com k)) :=
  ⟨rn_ok (lsX_true (lt_of_get hq)), ixF_ok sl39 sz24 (lt_of_get hq) rfl, ldN_ok (H.at_ i k hq), pc_ok (f90_ok (scal_true hs k (List.mem_of_getElem? hq))), trivial⟩

noncomputable def coms (l : List Nat) : List W9 := l.map com
theorem coms_take {l : List Nat} {i k : Nat} (hq : l[i]? = some k) : coms (l.take (i + 1)) = coms (l.take i) ++ [com k] := by
  unfold coms
  rw [List.take_add_one, hq, List.map_append]
  rfl
theorem coms_len (l : List Nat) : (coms l).length = l.length := by simp [coms]
theorem coms_lt (l : List Nat) : ∀ p ∈ coms l, p.lt := fun p hp => by
  unfold coms at hp
  rw [List.mem_map] at hp
  obtain ⟨k, _, rfl⟩ := hp
  exact com_lt k
theorem coms_is (l : List Nat) : pts (coms l) = true := pts_of fun p hp => by
  unfold coms at hp
  rw [List.mem_map] at hp
  obtain ⟨k, _, rfl⟩ := hp
  exact com_is k

/-- where the loop stands: i, the first two blocks, the row's, its room -/
abbrev EaI := Nat × Nat × Nat × Nat × Nat
noncomputable def eaI (e : Ent) (kv : Value) (l : List Nat) (s : EaI) : St := match s with
  | (0, _) => ea0 e kv l.length
  | (i + 1, g1, g2, g, room) => eaS e kv l.length (i + 1) (l.headD 0) (com (l.headD 0)) (wcs (coms (l.take (i + 1))) ++ zs z9 room) g1 g2 g room
noncomputable def eaRec (e : Ent) (kv : Value) (l : List Nat) : Rec :=
  .codeN eaL 4 (fun _ => ea0 e kv l.length) (fun _ δ => eaZ e l.length (l.headD 0) (com (l.headD 0)) (wcs (coms l) ++ zs z9 (δ 1 - l.length)) (δ 2) (δ 3) (δ 0) (δ 1)) (.exit 0)
theorem eaRec_ok (H : NsH kc off l) (hs : scal l = true) (h0 : 0 < l.length) {w0 : World} : (eaRec (xE kg kc kt) (SL kg off l.length cap) l).Ok Try.prog w0 := by
  refine Rec.ok_codeN follows (fun _ => eaI (xE kg kc kt) (SL kg off l.length cap) l) (fun s => s.1 ≤ l.length) (fun s => l.length - s.1) (.exit 0) 4 (fun _ δ => eaZ (xE kg kc kt) l.length (l.headD 0) (com (l.headD 0)) (wcs (coms l) ++ zs z9 (δ 1 - l.length)) (δ 2) (δ 3) (δ 0) (δ 1)) (fun h => by cases h) (0, 0, 0, 0, 0) (Nat.zero_le _) (fun gl s hk => ?_)
  obtain ⟨i, g1, g2, g, room⟩ := s
  have hk' : i ≤ l.length := hk
  have hn := H.n
  by_cases hlt : i < l.length
  · obtain ⟨k, hq⟩ : ∃ k, l[i]? = some k := ⟨_, List.getElem?_eq_getElem hlt⟩
    have hA := eaHd_ok (cap := cap) (kg := kg) (kt := kt) (w0 := w0) H hs hq
    have ht := coms_take hq
    cases i with
    | zero =>
      have hd : l.headD 0 = k := by
        cases l with
        | nil => cases hq
        | cons a l => simpa using hq
      refine .go (fun γ => (1, γ 0, γ 1, γ 3, γ 4)) (fun γ => by show 1 ≤ l.length; omega) (fun γ => by show l.length - 1 < l.length - 0; omega) 8 (eaHd (xE kg kc kt) off cap l.length 0 k (com k) ++ [ap0 29 1 40 40 26 26 z9 3 1 (W9.l (com k)), rn 30 (adX 0) (I 1)])
        (hA.append (m := [ap0 29 1 40 40 26 26 z9 3 1 (W9.l (com k)), rn 30 (adX 0) (I 1)]) ⟨ap0_ok elt40 (by decide) (w9_len _) (by decide) (by decide), rn_ok rfl, trivial⟩).all (fun γ => ?_)
      have e : wcs (coms (l.take 1)) = W9.l (com k) := by rw [ht]; exact List.append_nil _
      show Goes eaL (ea0 (xE kg kc kt) _ l.length) _ γ .normal (eaS (xE kg kc kt) _ l.length 1 (l.headD 0) (com (l.headD 0)) (wcs (coms (l.take 1)) ++ zs z9 (γ 4)) (γ 0) (γ 1) (γ 3) (γ 4))
      rw [e, hd]
      exact ea_go0 (xE kg kc kt) off cap l.length k (com k) γ
    | succ i =>
      have hxl : (wcs (coms (l.take (i + 1)))).length = (i + 1) * 9 := by rw [wcs_len, coms_len, List.length_take]; congr 1; omega
      refine .go (fun γ => (i + 2, g1, g2, γ 3, γ 4)) (fun γ => by show i + 2 ≤ l.length; omega) (fun γ => by show l.length - (i + 2) < l.length - (i + 1); omega) 8 (eaHd (xE kg kc kt) off cap l.length (i + 1) k (com k) ++ [apF 29 40 40 26 26 z9 3 6 (i + 1) 1 room (wcs (coms (l.take (i + 1)))) (W9.l (com k)), rn 30 (adX (i + 1)) (I (i + 1 + 1 : Nat))])
        (hA.append (m := [apF 29 40 40 26 26 z9 3 6 (i + 1) 1 room (wcs (coms (l.take (i + 1)))) (W9.l (com k)), rn 30 (adX (i + 1)) (I (i + 1 + 1 : Nat))]) ⟨apF_ok elt40 (by decide) hxl (w9_len _) (w9_one _) (by omega) (by omega), rn_ok (adX_eq (by omega)), trivial⟩).all (fun γ => ?_)
      show Goes eaL (eaS (xE kg kc kt) _ l.length (i + 1) _ _ (wcs (coms (l.take (i + 1))) ++ zs z9 room) g1 g2 g room) _ γ .normal (eaS (xE kg kc kt) _ l.length (i + 2) (l.headD 0) (com (l.headD 0)) (wcs (coms (l.take (i + 2))) ++ zs z9 (γ 4)) g1 g2 (γ 3) (γ 4))
      rw [ht, wcs_snoc, List.append_assoc]
      exact ea_go (xE kg kc kt) off cap l.length (i + 1) k (l.headD 0) (com k) (com (l.headD 0)) (wcs (coms (l.take (i + 1)))) g1 g2 g room γ
  · have e : i = l.length := by omega
    cases i with
    | zero => omega
    | succ i =>
      refine .stop (fun _ q => if q = 0 then g else if q = 1 then l.length + room else if q = 2 then g1 else if q = 3 then g2 else 0) (fun _ q hq => by rw [if_neg (by omega), if_neg (by omega), if_neg (by omega), if_neg (by omega)]) 8 [rn 14 (lsX l.length l.length) (.bool false)] (RecsOk.all ⟨rn_ok (lsX_false (by omega)), trivial⟩) (fun γ => ?_)
      have et : l.take (i + 1) = l := List.take_of_length_le (by omega)
      show Goes eaL (eaS (xE kg kc kt) (SL kg off l.length cap) l.length (i + 1) (l.headD 0) (com (l.headD 0)) (wcs (coms (l.take (i + 1))) ++ zs z9 room) g1 g2 g room) _ γ (.exit 0) (eaZ (xE kg kc kt) l.length (l.headD 0) (com (l.headD 0)) (wcs (coms l) ++ zs z9 (l.length + room - l.length)) g1 g2 g (l.length + room))
      rw [et, e, Nat.add_sub_cancel_left]
      exact ea_out _ _ _ _ _ _ g1 g2 g room γ

def comV (n e : Nat) (δ : Nat → Nat) : Value := .tuple #[SL (δ 0) 0 n (δ 1), I (e : Nat)]
noncomputable def comN (l : List Nat) (δ : Nat → Nat) : List Ent := [rowE (δ 0) (wcs (coms l)) (δ 1 - l.length)]
theorem f89_raw (e : Ent) (kv : Value) (l : List Nat) (γ : Nat → Nat) (hkv : ∃ a c, kv = .slice a l.length c) :
    outL Try.prog Try.f89.results.toList ([3].zip (comN l (pick 2 (fun q => q) γ))) (exec Try.prog (Fx Try.f89) ⟨Ex.start Try.f89.ntmps [(kv, .at_ 0), (FU 90, .no)] [e], (List.range 8).map γ, [eaRec e kv l], []⟩) =
      outR Try.prog Try.f89.results.toList ([3].zip (comN l (pick 2 (fun q => q) γ))) (comV l.length 0 (pick 2 (fun q => q) γ)) (exec Try.prog (Fx Try.f89) ⟨Ex.start Try.f89.ntmps [(kv, .at_ 0), (FU 90, .no)] [e], (List.range 8).map γ, [eaRec e kv l], []⟩) := by
  obtain ⟨a, c, rfl⟩ := hkv
  kernel_rfl
theorem f89_ok (H : NsH kc off l) (hs : scal l = true) (h0 : 0 < l.length) : MakesAt [xE kg kc kt] 89 [SL kg off l.length cap, FU 90] 2 (comV l.length 0) (comN l) := fun w hw =>
  makes_at Try.func89 rfl 8 [(SL kg off l.length cap, .at_ 0), (FU 90, .no)] [xE kg kc kt] [eaRec (xE kg kc kt) (SL kg off l.length cap) l] 2 (fun q => q) [3] (comV l.length 0) (comN l) w
    (fun e he => by simp only [List.mem_cons, List.not_mem_nil, or_false] at he; subst he; exact ⟨rfl, hw _ (by simp)⟩) (fun w => ⟨eaRec_ok H hs h0, trivial⟩) (by decide) (fun _ => rfl) (fun δ e he => by simp only [comN, List.mem_cons, List.not_mem_nil, or_false] at he; subst he; rfl) (fun γ => f89_raw (xE kg kc kt) _ l γ ⟨_, _, rfl⟩)

/-- feld.Commit -/
theorem f37_good (H : NsH kc off l) (hd : deg l.length = true) (hs : scal l = true) : MakesAt [xE kg kc kt] 37 [SL kg off l.length cap] 2 (comV l.length 0) (comN l) := fun w hw => by
  have h88 := f88_good (kg := kg) (cap := cap) (kt := kt) H hd hs (x := 0) (by decide)
  have h89 := f89_ok (kg := kg) (cap := cap) (kt := kt) H hs (deg_true hd).1
  generalize hor 0 l.reverse = v at *
  exact makes_at Try.func37 rfl 8 [(SL kg off l.length cap, .at_ 0)] [xE kg kc kt] [mc 88 [SL kg off l.length cap, NV 0] [(0, xE kg kc kt)] (.tuple #[NV v, I 0]), na 89 [SL kg off l.length cap, FU 90] [(0, xE kg kc kt)] 2 (comV l.length 0) (comN l) (.tup [.at_ 2, .no])] 2 (fun q => q + 1) [2] (comV l.length 0) (comN l) w
    (fun e he => by simp only [List.mem_cons, List.not_mem_nil, or_false] at he; subst he; exact ⟨rfl, hw _ (by simp)⟩) (fun w => ⟨mc_ok h88, na_ok h89, trivial⟩) (by decide) (fun _ => rfl) (fun δ e he => by simp only [comN, List.mem_cons, List.not_mem_nil, or_false] at he; subst he; rfl) (fun γ => by kernel_rfl)
theorem f37_rng (H : NsH kc off l) (hd : deg l.length = true) (hs : scal l = false) : PureAt [xE kg kc kt] 37 [SL kg off l.length cap] (.tuple #[.slice none 0 0, I 20]) := by
  have h88 := f88_rng (kg := kg) (cap := cap) (kt := kt) (x := 0) H hd hs
  exact pureAt_of Try.func37 rfl 8 [(SL kg off l.length cap, .at_ 0)] [xE kg kc kt] [mc 88 [SL kg off l.length cap, NV 0] [(0, xE kg kc kt)] (.tuple #[NV 0, I 20])] _ rfl (fun w => ⟨mc_ok h88, trivial⟩) (fun γ => by kernel_rfl)
end
theorem f37_deg {ka : Option Addr} {n cap : Nat} (hd : deg n = false) : Pure 37 [.slice ka n cap] (.tuple #[.slice none 0 0, I 1]) := by
  have h88 := f88_deg (ka := ka) (cap := cap) (x := 0) hd
  exact pure_of Try.func37 rfl 8 [.slice ka n cap] [pc 88 [.slice ka n cap, NV 0] (.tuple #[NV 0, I 1])] _ (fun w => ⟨pc_ok h88, trivial⟩) (fun γ => by kernel_rfl)

end Go.Proofs.Ytildcmggcbdhpaa
