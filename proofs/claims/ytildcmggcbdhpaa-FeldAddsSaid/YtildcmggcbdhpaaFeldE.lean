/- The document's commitments; lists of points compared. No conditions but that the rows' numbers and points stand where their values say. -/
import Derived.Test.YtildcmggcbdhpaaFeldD
namespace Go.Proofs.Ytildcmggcbdhpaa
open Go.Ex Go.RowKit Lim
set_option maxRecDepth 100000

noncomputable def rcL : Code := (loopsOf (Fx Try.f38)).getD 0 .skip
def rc0 (e : Ent) (kv : Value) (n : Nat) : St := ⟨frOf 31 [(4, .slice none 0 0), (18, kv), (19, I (n : Nat)), (20, I (0 : Nat))], tgOf 31 [(18, .at_ 0)], [e]⟩
def rcS (e : Ent) (kv : Value) (n i k0 : Nat) (cs : List Value) (g1 g room : Nat) : St :=
  ⟨frOf 31 [(4, SL g 0 i (i + room)), (18, kv), (19, I (n : Nat)), (20, I (i : Nat))], tgOf 31 [(4, .at_ 2), (18, .at_ 0)], [e, numE g1 k0 true, ⟨g, cs, [], 26, true⟩]⟩
def rcZ (e : Ent) (n k0 : Nat) (cs : List Value) (g1 g cap : Nat) : St := ⟨frOf 31 [(4, SL g 0 n cap)], tgOf 31 [(4, .at_ 2)], [e, numE g1 k0 true, ⟨g, cs, [], 26, true⟩]⟩
def rcHd (e : Ent) (off cap n i k : Nat) (p : W9) : List Rec := [rn 21 (lsX i n) (.bool true), ixF 22 39 e.g off n cap i (off + i * 4), ldF 23 0 e 24 (off + i * 4) (NV k), pc 91 [NV k] (PV p.x p.y p.inf)]
theorem rc_go0 (e : Ent) (off cap n k : Nat) (p : W9) (γ : Nat → Nat) :
    Goes rcL (rc0 e (SL e.g off n cap) n) (rcHd e off cap n 0 k p ++ [ap0 28 1 40 40 26 26 z9 2 1 (W9.l p), rn 29 (adX 0) (I 1)]) γ .normal (rcS e (SL e.g off n cap) n 1 k (W9.l p ++ zs z9 (γ 3)) (γ 0) (γ 2) (γ 3)) := by
  show _ = _; kernel_rfl
theorem rc_go (e : Ent) (off cap n i k k0 : Nat) (p : W9) (xs : List Value) (g1 g room : Nat) (γ : Nat → Nat) :
    Goes rcL (rcS e (SL e.g off n cap) n i k0 (xs ++ zs z9 room) g1 g room) (rcHd e off cap n i k p ++ [apF 28 40 40 26 26 z9 2 4 i 1 room xs (W9.l p), rn 29 (adX i) (I (i + 1 : Nat))]) γ .normal (rcS e (SL e.g off n cap) n (i + 1) k0 (xs ++ (W9.l p ++ zs z9 (γ 3))) g1 (γ 2) (γ 3)) := by
  show _ = _; kernel_rfl
theorem rc_out (e : Ent) (kv : Value) (n k0 : Nat) (cs : List Value) (g1 g room : Nat) (γ : Nat → Nat) :
    Goes rcL (rcS e kv n n k0 cs g1 g room) [rn 21 (lsX n n) (.bool false)] γ (.exit 0) (rcZ e n k0 cs g1 g (n + room)) := by
  show _ = _; kernel_rfl

section
variable {kg off cap : Nat} {kc : List Value} {kt : TypeId} {l : List Nat}
theorem rcHd_ok (H : NsH kc off l) {w0 : World} {i k : Nat} (hq : l[i]? = some k) : RecsOk w0 (rcHd (xE kg kc kt) off cap l.length i k (com k)) :=
  ⟨rn_ok (lsX_true (lt_of_get hq)), ixF_ok sl39 sz24 (lt_of_get hq) rfl, ldN_ok (H.at_ i k hq), pc_ok (f91_ok (H.lt k (List.mem_of_getElem? hq))), trivial⟩

abbrev RcI := Nat × Nat × Nat × Nat
noncomputable def rcI (e : Ent) (kv : Value) (l : List Nat) (s : RcI) : St := match s with
  | (0, _) => rc0 e kv l.length
  | (i + 1, g1, g, room) => rcS e kv l.length (i + 1) (l.headD 0) (wcs (coms (l.take (i + 1))) ++ zs z9 room) g1 g room
noncomputable def rcRec (e : Ent) (kv : Value) (l : List Nat) : Rec :=
  .codeN rcL 3 (fun _ => rc0 e kv l.length) (fun _ δ => rcZ e l.length (l.headD 0) (wcs (coms l) ++ zs z9 (δ 1 - l.length)) (δ 2) (δ 0) (δ 1)) (.exit 0)
theorem rcRec_ok (H : NsH kc off l) (h0 : 0 < l.length) {w0 : World} : (rcRec (xE kg kc kt) (SL kg off l.length cap) l).Ok Try.prog w0 := by
  refine Rec.ok_codeN follows (fun _ => rcI (xE kg kc kt) (SL kg off l.length cap) l) (fun s => s.1 ≤ l.length) (fun s => l.length - s.1) (.exit 0) 3 (fun _ δ => rcZ (xE kg kc kt) l.length (l.headD 0) (wcs (coms l) ++ zs z9 (δ 1 - l.length)) (δ 2) (δ 0) (δ 1)) (fun h => by cases h) (0, 0, 0, 0) (Nat.zero_le _) (fun gl s hk => ?_)
  obtain ⟨i, g1, g, room⟩ := s
  have hk' : i ≤ l.length := hk
  have hn := H.n
  by_cases hlt : i < l.length
  · obtain ⟨k, hq⟩ : ∃ k, l[i]? = some k := ⟨_, List.getElem?_eq_getElem hlt⟩
    have hA := rcHd_ok (cap := cap) (kg := kg) (kt := kt) (w0 := w0) H hq
    have ht := coms_take hq
    cases i with
    | zero =>
      have hd : l.headD 0 = k := by
        cases l with
        | nil => cases hq
        | cons a l => simpa using hq
      refine .go (fun γ => (1, γ 0, γ 2, γ 3)) (fun γ => by show 1 ≤ l.length; omega) (fun γ => by show l.length - 1 < l.length - 0; omega) 8 (rcHd (xE kg kc kt) off cap l.length 0 k (com k) ++ [ap0 28 1 40 40 26 26 z9 2 1 (W9.l (com k)), rn 29 (adX 0) (I 1)])
        (hA.append (m := [ap0 28 1 40 40 26 26 z9 2 1 (W9.l (com k)), rn 29 (adX 0) (I 1)]) ⟨ap0_ok elt40 (by decide) (w9_len _) (by decide) (by decide), rn_ok rfl, trivial⟩).all (fun γ => ?_)
      have e : wcs (coms (l.take 1)) = W9.l (com k) := by rw [ht]; exact List.append_nil _
      show Goes rcL (rc0 (xE kg kc kt) _ l.length) _ γ .normal (rcS (xE kg kc kt) _ l.length 1 (l.headD 0) (wcs (coms (l.take 1)) ++ zs z9 (γ 3)) (γ 0) (γ 2) (γ 3))
      rw [e, hd]
      exact rc_go0 (xE kg kc kt) off cap l.length k (com k) γ
    | succ i =>
      have hxl : (wcs (coms (l.take (i + 1)))).length = (i + 1) * 9 := by rw [wcs_len, coms_len, List.length_take]; congr 1; omega
      refine .go (fun γ => (i + 2, g1, γ 2, γ 3)) (fun γ => by show i + 2 ≤ l.length; omega) (fun γ => by show l.length - (i + 2) < l.length - (i + 1); omega) 8 (rcHd (xE kg kc kt) off cap l.length (i + 1) k (com k) ++ [apF 28 40 40 26 26 z9 2 4 (i + 1) 1 room (wcs (coms (l.take (i + 1)))) (W9.l (com k)), rn 29 (adX (i + 1)) (I (i + 1 + 1 : Nat))])
        (hA.append (m := [apF 28 40 40 26 26 z9 2 4 (i + 1) 1 room (wcs (coms (l.take (i + 1)))) (W9.l (com k)), rn 29 (adX (i + 1)) (I (i + 1 + 1 : Nat))]) ⟨apF_ok elt40 (by decide) hxl (w9_len _) (w9_one _) (by omega) (by omega), rn_ok (adX_eq (by omega)), trivial⟩).all (fun γ => ?_)
      show Goes rcL (rcS (xE kg kc kt) _ l.length (i + 1) _ (wcs (coms (l.take (i + 1))) ++ zs z9 room) g1 g room) _ γ .normal (rcS (xE kg kc kt) _ l.length (i + 2) (l.headD 0) (wcs (coms (l.take (i + 2))) ++ zs z9 (γ 3)) g1 (γ 2) (γ 3))
      rw [ht, wcs_snoc, List.append_assoc]
      exact rc_go (xE kg kc kt) off cap l.length (i + 1) k (l.headD 0) (com k) (wcs (coms (l.take (i + 1)))) g1 g room γ
  · have e : i = l.length := by omega
    cases i with
    | zero => omega
    | succ i =>
      refine .stop (fun _ q => if q = 0 then g else if q = 1 then l.length + room else if q = 2 then g1 else 0) (fun _ q hq => by rw [if_neg (by omega), if_neg (by omega), if_neg (by omega)]) 8 [rn 21 (lsX l.length l.length) (.bool false)] (RecsOk.all ⟨rn_ok (lsX_false (by omega)), trivial⟩) (fun γ => ?_)
      have et : l.take (i + 1) = l := List.take_of_length_le (by omega)
      show Goes rcL (rcS (xE kg kc kt) (SL kg off l.length cap) l.length (i + 1) (l.headD 0) (wcs (coms (l.take (i + 1))) ++ zs z9 room) g1 g room) _ γ (.exit 0) (rcZ (xE kg kc kt) l.length (l.headD 0) (wcs (coms l) ++ zs z9 (l.length + room - l.length)) g1 g (l.length + room))
      rw [et, e, Nat.add_sub_cancel_left]
      exact rc_out _ _ _ _ _ g1 g room γ

theorem lsX1_no {n : Nat} (h : 1 ≤ n) : lsX n 1 = .bool false := lsX_false h
/-- wardmoteref07.Commit -/
theorem f38_good (H : NsH kc off l) (hd : deg l.length = true) (hs : scal l = true) : MakesAt [xE kg kc kt] 38 [SL kg off l.length cap] 2 (comV l.length 0) (comN l) := fun w hw => by
  have h51 := f51_ok (kg := kg) (cap := cap) (kt := kt) H
  rw [hs] at h51
  have hd' := deg_true hd
  exact makes_at Try.func38 rfl 8 [(SL kg off l.length cap, .at_ 0)] [xE kg kc kt] [rn 9 (lsX l.length 1) (.bool false), rn 13 (grX l.length 10) (.bool false), mc 51 [SL kg off l.length cap] [(0, xE kg kc kt)] (.bool true), rcRec (xE kg kc kt) (SL kg off l.length cap) l] 2 (fun q => q) [2] (comV l.length 0) (comN l) w
    (fun e he => by simp only [List.mem_cons, List.not_mem_nil, or_false] at he; subst he; exact ⟨rfl, hw _ (by simp)⟩) (fun w => ⟨rn_ok (lsX_false hd'.1), rn_ok (grX_false hd'.2), mc_ok h51, rcRec_ok H hd'.1, trivial⟩) (by decide) (fun _ => rfl) (fun δ e he => by simp only [comN, List.mem_cons, List.not_mem_nil, or_false] at he; subst he; rfl) (fun γ => by kernel_rfl)
theorem f38_rng (H : NsH kc off l) (hd : deg l.length = true) (hs : scal l = false) : PureAt [xE kg kc kt] 38 [SL kg off l.length cap] (.tuple #[.slice none 0 0, I 20]) := by
  have h51 := f51_ok (kg := kg) (cap := cap) (kt := kt) H
  rw [hs] at h51
  have hd' := deg_true hd
  exact pureAt_of Try.func38 rfl 8 [(SL kg off l.length cap, .at_ 0)] [xE kg kc kt] [rn 9 (lsX l.length 1) (.bool false), rn 13 (grX l.length 10) (.bool false), mc 51 [SL kg off l.length cap] [(0, xE kg kc kt)] (.bool false)] _ rfl (fun w => ⟨rn_ok (lsX_false hd'.1), rn_ok (grX_false hd'.2), mc_ok h51, trivial⟩) (fun γ => by kernel_rfl)
end
theorem f38_deg {ka : Option Addr} {n cap : Nat} (hd : deg n = false) : Pure 38 [.slice ka n cap] (.tuple #[.slice none 0 0, I 1]) := by
  have h := deg_false hd
  by_cases h1 : n < 1
  · exact pure_of Try.func38 rfl 8 [.slice ka n cap] [rn 9 (lsX n 1) (.bool true)] _ (fun w => ⟨rn_ok (lsX_true h1), trivial⟩) (fun γ => by kernel_rfl)
  · exact pure_of Try.func38 rfl 8 [.slice ka n cap] [rn 9 (lsX n 1) (.bool false), rn 13 (grX n 10) (.bool true)] _ (fun w => ⟨rn_ok (lsX_false (by omega)), rn_ok (grX_true (by omega)), trivial⟩) (fun γ => by kernel_rfl)

/-- wardmoteplain.Points -/
noncomputable def poL : Code := (loopsOf (Fx Try.f39)).getD 0 .skip
def poS (ea eb : Ent) (av bv : Value) (n i : Nat) : St := ⟨frOf 32 [(0, av), (1, bv), (7, I (n : Nat)), (8, I (i : Nat))], tgOf 32 [(0, .at_ 0), (1, .at_ 1)], [ea, eb]⟩
def poR (ea eb : Ent) (oa ca ob cb n i : Nat) (p : W9) : List Rec :=
  [rn 9 (lsX i n) (.bool true), rn 14 (gqX i n) (.bool false), ixF 18 40 ea.g oa n ca i (oa + i * 9), ldF 19 0 ea 26 (oa + i * 9) (PV p.x p.y p.inf), ixF 22 40 eb.g ob n cb i (ob + i * 9), ldF 23 1 eb 26 (ob + i * 9) (PV p.x p.y p.inf), neP 24 p.x p.y p.inf p.x p.y p.inf false, rn 26 (adX i) (I (i + 1 : Nat))]
theorem po_go (ea eb : Ent) (oa ca ob cb n i : Nat) (p : W9) (γ : Nat → Nat) : Goes poL (poS ea eb (SL ea.g oa n ca) (SL eb.g ob n cb) n i) (poR ea eb oa ca ob cb n i p) γ .normal (poS ea eb (SL ea.g oa n ca) (SL eb.g ob n cb) n (i + 1)) := by
  show _ = _; kernel_rfl
theorem po_out (ea eb : Ent) (av bv : Value) (n : Nat) (γ : Nat → Nat) : Goes poL (poS ea eb av bv n n) [rn 9 (lsX n n) (.bool false)] γ (.exit 0) (poS ea eb av bv n n) := by
  show _ = _; kernel_rfl
def eqN (n m : Nat) : Value := .bool ((n : Int) == (m : Int))
theorem eqN_true (n : Nat) : eqN n n = .bool true := by unfold eqN; simp
theorem f39_ok {ga gb oa ob ca cb : Nat} {va vb : List Value} {ta tb : TypeId} {l : List W9} (Ha : PsH va oa l) (Hb : PsH vb ob l) : PureAt [xE ga va ta, xE gb vb tb] 39 [SL ga oa l.length ca, SL gb ob l.length cb] (.bool true) := by
  have hr : ∀ w0 : World, (Rec.code poL (fun _ => poS (xE ga va ta) (xE gb vb tb) (SL ga oa l.length ca) (SL gb ob l.length cb) l.length 0) (fun _ => poS (xE ga va ta) (xE gb vb tb) (SL ga oa l.length ca) (SL gb ob l.length cb) l.length l.length) (.exit 0)).Ok Try.prog w0 := fun w0 =>
    scan_end (fun _ i => poS (xE ga va ta) (xE gb vb tb) (SL ga oa l.length ca) (SL gb ob l.length cb) l.length i) _ 0 l.length (fun i hi => by
      obtain ⟨p, hq⟩ : ∃ p, l[i]? = some p := ⟨_, List.getElem?_eq_getElem hi⟩
      have hp := Ha.lt p (List.mem_of_getElem? hq)
      have hn := Ha.n
      exact ⟨poR (xE ga va ta) (xE gb vb tb) oa ca ob cb l.length i p, ⟨rn_ok (lsX_true hi), rn_ok (gqX_false hi), ixF_ok sl40 sz26 hi rfl, ldP_ok (Ha.at_ i p hq), ixF_ok sl40 sz26 hi rfl, ldP_ok (Hb.at_ i p hq), neP_ok hp.1 hp.2 hp.1 hp.2 (by simp), rn_ok (adX_eq (by omega)), trivial⟩, fun _ γ => po_go (xE ga va ta) (xE gb vb tb) oa ca ob cb l.length i p γ⟩) ⟨[rn 9 (lsX l.length l.length) (.bool false)], ⟨rn_ok (lsX_false (Nat.le_refl _)), trivial⟩, fun _ γ => po_out _ _ _ _ l.length γ⟩
  exact pureAt_of Try.func39 rfl 8 [(SL ga oa l.length ca, .at_ 0), (SL gb ob l.length cb, .at_ 1)] [xE ga va ta, xE gb vb tb] [_, rn 31 (eqN l.length l.length) (.bool true)] _ rfl (fun w => ⟨hr w, rn_ok (eqN_true _), trivial⟩) (fun γ => by kernel_rfl)
theorem f39_nil : Pure 39 [.slice none 0 0, .slice none 0 0] (.bool true) :=
  pure_of Try.func39 rfl 8 [.slice none 0 0, .slice none 0 0] [] _ (fun _ => trivial) (fun γ => by kernel_rfl)

end Go.Proofs.Ytildcmggcbdhpaa
