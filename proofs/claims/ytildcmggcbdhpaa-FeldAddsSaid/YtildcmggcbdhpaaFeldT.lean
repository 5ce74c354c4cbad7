/- share.Sum, of two lists of numbers. No conditions but that the lists' numbers stand where their values say. -/
import Derived.Test.YtildcmggcbdhpaaLawFSums
namespace Go.Proofs.Ytildcmggcbdhpaa
open Go.Ex Go.RowKit Lim
set_option maxRecDepth 100000

theorem ncs_zero : ∀ n : Nat, ncs (List.replicate n 0) = zs z4 n
  | 0 => by simp [zs, Builtin.zeroCells, ncs]
  | n + 1 => by
    have h := zs_drop z4 1 n
    have h1 : (zs z4 (1 + n)).take 4 = nl 0 := by
      apply List.ext_getElem?
      intro i
      rw [List.getElem?_take]
      by_cases hi : i < 4
      · rw [if_pos hi]
        unfold zs Builtin.zeroCells
        rw [Array.getElem?_toList, Array.getElem?_map, Array.getElem?_range, if_pos (by show i < (1 + n) * 4; omega)]
        rcases i with _ | _ | _ | _ | i <;> first | rfl | omega
      · rw [if_neg hi, List.getElem?_eq_none (by show 4 ≤ i; omega)]
    rw [List.replicate_succ]
    show nl 0 ++ ncs (List.replicate n 0) = _
    rw [ncs_zero n, ← h, ← h1, show (1 : Nat) * z4.size = 4 from rfl, List.take_append_drop, Nat.add_comm]
theorem setL_ncs : ∀ (os : List Nat) (i : Nat) (k : Nat), i < os.length → setL (ncs os) (0 + i * 4) (nl k) = ncs (os.set i k)
  | [], i, _, h => by cases h
  | q :: os, 0, k, _ => rfl
  | q :: os, i + 1, k, h => by
    show setL (nl q ++ ncs os) (0 + (i + 1) * 4) (nl k) = nl q ++ ncs (os.set i k)
    rw [← setL_ncs os i k (by simpa using h), show 0 + (i + 1) * 4 = (nl q).length + (0 + i * 4) by rw [nl_len]; omega, setL_app]

/-- up to i, numbers added -/
def mixL (n : Nat) (xs ys : List Nat) (i : Nat) : List Nat := (List.range n).map fun t => if t < i then (xs[t]?.getD 0 + ys[t]?.getD 0) % Q else xs[t]?.getD 0
theorem mixL_len (n : Nat) (xs ys : List Nat) (i : Nat) : (mixL n xs ys i).length = n := by simp [mixL]
theorem mixL_get {n i : Nat} {xs ys : List Nat} {x : Nat} (hi : i < n) (hx : xs[i]? = some x) : (mixL n xs ys i)[i]? = some x := by
  unfold mixL
  rw [List.getElem?_map, List.getElem?_range hi]
  simp [hx]
theorem mixL_set {n i : Nat} {xs ys : List Nat} {x y : Nat} (hx : xs[i]? = some x) (hy : ys[i]? = some y) : (mixL n xs ys i).set i ((x + y) % Q) = mixL n xs ys (i + 1) := by
  unfold mixL
  apply List.ext_getElem?
  intro t
  by_cases ht : t < n
  · rw [List.getElem?_set]
    by_cases hti : i = t
    · subst hti
      simp [ht, hx, hy]
    · rw [if_neg hti, List.getElem?_map, List.getElem?_map, List.getElem?_range ht]
      simp only [Option.map_some]
      by_cases h1 : t < i
      · rw [if_pos h1, if_pos (by omega)]
      · rw [if_neg h1, if_neg (by omega)]
  · rw [List.getElem?_eq_none (by simp; omega), List.getElem?_eq_none (by simp; omega)]
theorem mixL_zero {n : Nat} {xs : List Nat} (ys : List Nat) (h : xs.length = n) : mixL n xs ys 0 = xs := by
  unfold mixL
  apply List.ext_getElem
  · simp [h]
  · intro i h1 h2
    simp [h2]
theorem mixL_nil {n : Nat} {ys : List Nat} (h : ys.length = n) (hq : ∀ y ∈ ys, y < Q) : mixL n (List.replicate n 0) ys n = ys := by
  unfold mixL
  apply List.ext_getElem
  · simp [h]
  · intro i h1 h2
    have hi : i < n := by omega
    simp only [List.getElem_map, List.getElem_range]
    rw [if_pos hi, List.getElem?_replicate, if_pos hi, List.getElem?_eq_getElem h2]
    simp only [Option.getD_some]
    rw [Nat.zero_add, Nat.mod_eq_of_lt (hq _ (List.getElem_mem h2))]
def addL (n : Nat) (xs ys : List Nat) : List Nat := mixL n xs ys n
theorem mixL_lt {n : Nat} {xs ys : List Nat} {i : Nat} (h : ∀ x ∈ xs, x < Q) : ∀ k ∈ mixL n xs ys i, k < Q := fun k hk => by
  simp only [mixL, List.mem_map] at hk
  obtain ⟨t, _, rfl⟩ := hk
  split
  · exact Nat.mod_lt _ (by decide)
  · cases hx : xs[t]? with
    | none => exact (by decide : 0 < Q)
    | some x => exact h x (List.mem_of_getElem? hx)

def suE (og : Nat) (va vb : Value) (ot : TypeId) : Ent := xE og [va, vb] ot
noncomputable def shI : Code := (loopsOf (Fx Try.f50)).getD 2 .skip
def noE (g : Nat) (cs : List Value) : Ent := ⟨g, cs, [], 24, true⟩
def shH (oe ea eb : Ent) (gl : List Nat) (cs : List Value) : List Ent := [oe, ea, eb, montO (gl.getD 3 0) Q Q2 Qi, fieldE (gl.getD 4 0) (gl.getD 3 0) Q 0 [] true, noE (gl.getD 5 0) cs]
/-- the inner loop, over the first list (b = false), the second -/
def shS (b : Bool) (ov : Value) (oe ea eb : Ent) (n : Nat) (v : Value) (cs : List Value) (gl : List Nat) (i : Nat) : St :=
  ⟨frOf 73 [(0, ov), (6, PT (gl.getD 4 0)), (7, SL (gl.getD 5 0) 0 n n), (41, ov), (42, I 2), (43, match b with | false => I 0 | true => I 1), (50, v), (51, I (n : Nat)), (52, I (i : Nat))],
    tgOf 73 [(0, .at_ 0), (6, .at_ 4), (7, .at_ 5), (41, .at_ 0)], shH oe ea eb gl cs⟩
def shR (b : Bool) (ea eb : Ent) (n i go : Nat) (cs : List Value) (g off cap x y s : Nat) : List Rec :=
  [rn 53 (lsX i n) (.bool true), ixF 55 39 g off n cap i (off + i * 4), (match b with | false => ldF 56 1 ea 24 (off + i * 4) (NV y) | true => ldF 56 2 eb 24 (off + i * 4) (NV y)), ixF 63 39 go 0 n n i (0 + i * 4), ldF 64 5 (noE go cs) 24 (0 + i * 4) (NV x), qo 30 3 [NV x, NV y] (.tuple #[NV s, I 0]),
    ixF 69 39 go 0 n n i (0 + i * 4), stR 69 24 5 (noE go cs) (0 + i * 4) (NV s) (nl s), rn 70 (adX i) (I (i + 1 : Nat))]
theorem sh_go (b : Bool) (ov : Value) (oe ea eb : Ent) (n i : Nat) (cs : List Value) (g off cap x y s : Nat) (gl : List Nat) (γ : Nat → Nat) (hg : g = match b with | false => ea.g | true => eb.g) :
    Goes shI (shS b ov oe ea eb n (SL g off n cap) cs gl i) (shR b ea eb n i (gl.getD 5 0) cs g off cap x y s) γ .normal (shS b ov oe ea eb n (SL g off n cap) (setL cs (0 + i * 4) (nl s)) gl (i + 1)) := by
  cases b <;> (subst hg; show _ = _; kernel_rfl)
theorem sh_out (b : Bool) (ov : Value) (oe ea eb : Ent) (n : Nat) (v : Value) (cs : List Value) (gl : List Nat) (γ : Nat → Nat) : Goes shI (shS b ov oe ea eb n v cs gl n) [rn 53 (lsX n n) (.bool false)] γ (.exit 4) (shS b ov oe ea eb n v cs gl n) := by
  cases b <;> (show _ = _; kernel_rfl)
noncomputable def shRec (b : Bool) (ov : Value) (oe ea eb : Ent) (n : Nat) (v : Value) (cs cs' : List Value) : Rec := .code shI (fun gl => shS b ov oe ea eb n v cs gl 0) (fun gl => shS b ov oe ea eb n v cs' gl n) (.exit 4)

theorem sh_ok {w0 : World} (b : Bool) (ov : Value) (oe ea eb : Ent) {n g off cap : Nat} {kc : List Value} {kt : TypeId} {xs ys : List Nat} (he : (match b with | false => ea | true => eb) = xE g kc kt) (H : NsH kc off ys) (hy : ys.length = n) (hx : xs.length = n) (hxQ : ∀ x ∈ xs, x < Q) (hyQ : ∀ y ∈ ys, y < Q) :
    (shRec b ov oe ea eb n (SL g off n cap) (ncs xs) (ncs (mixL n xs ys n))).Ok Try.prog w0 := by
  have hn := H.n
  have key : (Rec.code shI (fun gl => shS b ov oe ea eb n (SL g off n cap) (ncs (mixL n xs ys 0)) gl 0) (fun gl => shS b ov oe ea eb n (SL g off n cap) (ncs (mixL n xs ys n)) gl n) (.exit 4)).Ok Try.prog w0 := by
    refine Rec.ok_code follows (fun gl i => shS b ov oe ea eb n (SL g off n cap) (ncs (mixL n xs ys i)) gl i) (fun i => i ≤ n) (fun i => n - i) (.exit 4) (fun gl => shS b ov oe ea eb n (SL g off n cap) (ncs (mixL n xs ys n)) gl n) (fun h => by cases h) 0 (Nat.zero_le _) (fun gl i hi => ?_)
    by_cases hlt : i < n
    · obtain ⟨x, hxi⟩ : ∃ x, xs[i]? = some x := ⟨_, List.getElem?_eq_getElem (by omega)⟩
      obtain ⟨y, hyi⟩ : ∃ y, ys[i]? = some y := ⟨_, List.getElem?_eq_getElem (by omega)⟩
      have hxl := hxQ x (List.mem_of_getElem? hxi)
      have hyl := hyQ y (List.mem_of_getElem? hyi)
      have h30 := fun g h => f30_ok (g := g) (h := h) (r2 := Q2) (inv := Qi) (root := 0) Q_R hxl hyl
      have hst : ∀ e : Ent, e = noE (gl.getD 5 0) (ncs (mixL n xs ys i)) → (stR 69 24 5 e (0 + i * 4) (NV ((x + y) % Q)) (nl ((x + y) % Q))).Ok Try.prog w0 := fun e he => by
        subst he
        exact st_row (cs := nl ((x + y) % Q)) rfl (by show 0 + i * 4 + 4 ≤ (ncs _).length; rw [ncs_len, mixL_len]; omega) (by rw [sz24]; rfl) (nl_one _)
      have hld : (ldF 64 5 (noE (gl.getD 5 0) (ncs (mixL n xs ys i))) 24 (0 + i * 4) (NV x)).Ok Try.prog w0 := ldN_ok fun k u hk => by
        have h1 := flat_get (f := nl) (c := 4) (fun _ => rfl) (mixL n xs ys i) i k x u (mixL_get hlt hxi) hk
        show (ncs (mixL n xs ys i))[0 + i * 4 + k]? = some u
        rw [Nat.zero_add]
        exact h1
      refine .go (i + 1) (by omega) (by omega) 8 (shR b ea eb n i (gl.getD 5 0) (ncs (mixL n xs ys i)) g off cap x y ((x + y) % Q)) (RecsOk.all ⟨rn_ok (lsX_true hlt), ixF_ok sl39 sz24 hlt rfl, ?_, ixF_ok sl39 sz24 hlt rfl, hld, qo_ok h30, ixF_ok sl39 sz24 hlt rfl, hst _ rfl, rn_ok (adX_eq (by omega)), trivial⟩) (fun γ => ?_)
      · cases b with
        | false => exact ldN_ok fun k u hk => by rw [show ea = xE g kc kt from he]; exact H.at_ i y hyi k u hk
        | true => exact ldN_ok fun k u hk => by rw [show eb = xE g kc kt from he]; exact H.at_ i y hyi k u hk
      · have h2 := sh_go b ov oe ea eb n i (ncs (mixL n xs ys i)) g off cap x y ((x + y) % Q) gl γ (by cases b with
          | false => rw [show ea = xE g kc kt from he]; rfl
          | true => rw [show eb = xE g kc kt from he]; rfl)
        rw [setL_ncs _ _ _ (by rw [mixL_len]; exact hlt), mixL_set hxi hyi] at h2
        exact h2
    · have e : i = n := by omega
      subst e
      exact .stop 8 [rn 53 (lsX i i) (.bool false)] (RecsOk.all ⟨rn_ok (lsX_false (Nat.le_refl _)), trivial⟩) (fun γ => sh_out b ov oe ea eb i _ _ gl γ)
  rw [mixL_zero ys hx] at key
  exact key

def shV (n : Nat) (δ : Nat → Nat) : Value := .tuple #[SL (δ 0) 0 n n, I 0]
def shN (ns : List Nat) (δ : Nat → Nat) : List Ent := [noE (δ 0) (ncs ns)]
section
variable {og ga oa ca gb ob cb : Nat} {ka kb : List Value} {ot ta tb : TypeId} {la lb : List Nat}
def shBeg (na nb : Nat) : List Rec := [pc 95 [I na] (.bool true), rn 32 (nqX na na) (.bool false), pc 95 [I nb] (.bool true), rn 32 (nqX nb na) (.bool false), qb 3]
theorem f50_good (Ha : NsH ka oa la) (Hb : NsH kb ob lb) (hd : deg la.length = true) (hl : lb.length = la.length) (hsa : scal la = true) (hsb : scal lb = true) :
    MakesAt [suE og (SL ga oa la.length ca) (SL gb ob la.length cb) ot, xE ga ka ta, xE gb kb tb] 50 [SL og 0 2 2] 1 (shV la.length) (shN (addL la.length la lb)) := fun w hw => by
  have h95 := f95_ok (n := la.length)
  rw [hd] at h95
  have h96a := f96_ok (kg := ga) (cap := ca) (kt := ta) Ha
  rw [hsa] at h96a
  have h96b := f96_ok (kg := gb) (cap := cb) (kt := tb) Hb
  rw [hsb, hl] at h96b
  have hn := deg_true hd
  have h1 := fun w0 : World => sh_ok (w0 := w0) false (SL og 0 2 2) (suE og (SL ga oa la.length ca) (SL gb ob la.length cb) ot) (xE ga ka ta) (xE gb kb tb) (n := la.length) (cap := ca) (xs := List.replicate la.length 0) (ys := la) rfl Ha rfl (by simp) (fun x hx => by rw [List.eq_of_mem_replicate hx]; decide) (scal_true hsa)
  rw [mixL_nil rfl (scal_true hsa)] at h1
  have h2 := fun w0 : World => sh_ok (w0 := w0) true (SL og 0 2 2) (suE og (SL ga oa la.length ca) (SL gb ob la.length cb) ot) (xE ga ka ta) (xE gb kb tb) (n := la.length) (cap := cb) (xs := la) (ys := lb) rfl Hb hl rfl (scal_true hsa) (scal_true hsb)
  have hm : ∀ w0 : World, (mkR 40 39 24 la.length 5 (ncs (List.replicate la.length 0))).Ok Try.prog w0 := fun w0 => by rw [ncs_zero]; exact mkR_ok elt39 (by omega) (by omega) (by omega)
  have hr : ∀ w0 : World, RecsOk w0 (shBeg la.length la.length ++ [mkR 40 39 24 la.length 5 (ncs (List.replicate la.length 0)), mc 96 [SL ga oa la.length ca] [(1, xE ga ka ta)] (.bool true), shRec false (SL og 0 2 2) (suE og (SL ga oa la.length ca) (SL gb ob la.length cb) ot) (xE ga ka ta) (xE gb kb tb) la.length (SL ga oa la.length ca) (ncs (List.replicate la.length 0)) (ncs la),
      mc 96 [SL gb ob la.length cb] [(2, xE gb kb tb)] (.bool true), shRec true (SL og 0 2 2) (suE og (SL ga oa la.length ca) (SL gb ob la.length cb) ot) (xE ga ka ta) (xE gb kb tb) la.length (SL gb ob la.length cb) (ncs la) (ncs (mixL la.length la lb la.length))]) := fun w0 =>
    RecsOk.append (l := shBeg la.length la.length) ⟨pc_ok h95, rn_ok (nqX_false _), pc_ok h95, rn_ok (nqX_false _), qb_ok, trivial⟩ ⟨hm w0, mc_ok h96a, h1 w0, mc_ok h96b, h2 w0, trivial⟩
  unfold addL
  generalize mixL la.length la lb la.length = ns at *
  generalize ncs (List.replicate la.length 0) = c0 at *
  generalize ncs la = c1 at hr
  generalize la.length = n at *
  exact makes_at Try.func50 rfl 8 [(SL og 0 2 2, .at_ 0)] [suE og (SL ga oa n ca) (SL gb ob n cb) ot, xE ga ka ta, xE gb kb tb] _ 1 (fun q => q + 2) [5] (shV n) (shN ns) w
    (fun e he => by
      simp only [List.mem_cons, List.not_mem_nil, or_false] at he
      rcases he with rfl | rfl | rfl
      · exact ⟨rfl, hw _ (by simp)⟩
      · exact ⟨rfl, hw _ (by simp)⟩
      · exact ⟨rfl, hw _ (by simp)⟩) hr (by decide) (fun _ => rfl) (fun δ e he => by simp only [shN, List.mem_cons, List.not_mem_nil, or_false] at he; subst he; rfl) (fun γ => by kernel_rfl)
theorem f50_rngA (Ha : NsH ka oa la) (hd : deg la.length = true) (hsa : scal la = false) :
    PureAt [suE og (SL ga oa la.length ca) (SL gb ob la.length cb) ot, xE ga ka ta] 50 [SL og 0 2 2] (.tuple #[.slice none 0 0, I 20]) := by
  have h95 := f95_ok (n := la.length)
  rw [hd] at h95
  have h96a := f96_ok (kg := ga) (cap := ca) (kt := ta) Ha
  rw [hsa] at h96a
  have hn := deg_true hd
  have hm : ∀ w0 : World, (mkR 40 39 24 la.length 4 (zs z4 la.length)).Ok Try.prog w0 := fun w0 => mkR_ok elt39 (by omega) (by omega) (by omega)
  generalize la.length = n at *
  generalize zs z4 n = c0 at *
  exact pureAt_of Try.func50 rfl 8 [(SL og 0 2 2, .at_ 0)] [suE og (SL ga oa n ca) (SL gb ob n cb) ot, xE ga ka ta] [pc 95 [I n] (.bool true), rn 32 (nqX n n) (.bool false), pc 95 [I n] (.bool true), rn 32 (nqX n n) (.bool false), qb 2, mkR 40 39 24 n 4 c0, mc 96 [SL ga oa n ca] [(1, xE ga ka ta)] (.bool false)] _ rfl
    (fun w => ⟨pc_ok h95, rn_ok (nqX_false _), pc_ok h95, rn_ok (nqX_false _), qb_ok, hm w, mc_ok h96a, trivial⟩) (fun γ => by kernel_rfl)
theorem f50_rngB (Ha : NsH ka oa la) (Hb : NsH kb ob lb) (hd : deg la.length = true) (hl : lb.length = la.length) (hsa : scal la = true) (hsb : scal lb = false) :
    PureAt [suE og (SL ga oa la.length ca) (SL gb ob la.length cb) ot, xE ga ka ta, xE gb kb tb] 50 [SL og 0 2 2] (.tuple #[.slice none 0 0, I 20]) := by
  have h95 := f95_ok (n := la.length)
  rw [hd] at h95
  have h96a := f96_ok (kg := ga) (cap := ca) (kt := ta) Ha
  rw [hsa] at h96a
  have h96b := f96_ok (kg := gb) (cap := cb) (kt := tb) Hb
  rw [hsb, hl] at h96b
  have hn := deg_true hd
  have h1 := fun w0 : World => sh_ok (w0 := w0) false (SL og 0 2 2) (suE og (SL ga oa la.length ca) (SL gb ob la.length cb) ot) (xE ga ka ta) (xE gb kb tb) (n := la.length) (cap := ca) (xs := List.replicate la.length 0) (ys := la) rfl Ha rfl (by simp) (fun x hx => by rw [List.eq_of_mem_replicate hx]; decide) (scal_true hsa)
  have hm : ∀ w0 : World, (mkR 40 39 24 la.length 5 (ncs (List.replicate la.length 0))).Ok Try.prog w0 := fun w0 => by rw [ncs_zero]; exact mkR_ok elt39 (by omega) (by omega) (by omega)
  generalize ncs (mixL la.length (List.replicate la.length 0) la la.length) = c1 at *
  generalize ncs (List.replicate la.length 0) = c0 at *
  generalize la.length = n at *
  exact pureAt_of Try.func50 rfl 8 [(SL og 0 2 2, .at_ 0)] [suE og (SL ga oa n ca) (SL gb ob n cb) ot, xE ga ka ta, xE gb kb tb] (shBeg n n ++ [mkR 40 39 24 n 5 c0, mc 96 [SL ga oa n ca] [(1, xE ga ka ta)] (.bool true), shRec false (SL og 0 2 2) (suE og (SL ga oa n ca) (SL gb ob n cb) ot) (xE ga ka ta) (xE gb kb tb) n (SL ga oa n ca) c0 c1, mc 96 [SL gb ob n cb] [(2, xE gb kb tb)] (.bool false)]) _ rfl
    (fun w => RecsOk.append (l := shBeg n n) ⟨pc_ok h95, rn_ok (nqX_false _), pc_ok h95, rn_ok (nqX_false _), qb_ok, trivial⟩ ⟨hm w, mc_ok h96a, h1 w, mc_ok h96b, trivial⟩) (fun γ => by kernel_rfl)
end
theorem f50_len {og na ca nb cb : Nat} {aa ab : Option Addr} {ot : TypeId} (h : deg na = false ∨ nb ≠ na) : PureAt [suE og (.slice aa na ca) (.slice ab nb cb) ot] 50 [SL og 0 2 2] (.tuple #[.slice none 0 0, I 1]) := by
  have h95 := f95_ok (n := na)
  cases hd : deg na with
  | false =>
    rw [hd] at h95
    exact pureAt_of Try.func50 rfl 8 [(SL og 0 2 2, .at_ 0)] [suE og (.slice aa na ca) (.slice ab nb cb) ot] [pc 95 [I na] (.bool false)] _ rfl (fun w => ⟨pc_ok h95, trivial⟩) (fun γ => by kernel_rfl)
  | true =>
    rw [hd] at h95
    have hne : nb ≠ na := by
      rcases h with h | h
      · rw [hd] at h; cases h
      · exact h
    have h95b := f95_ok (n := nb)
    cases hb : deg nb with
    | false =>
      rw [hb] at h95b
      exact pureAt_of Try.func50 rfl 8 [(SL og 0 2 2, .at_ 0)] [suE og (.slice aa na ca) (.slice ab nb cb) ot] [pc 95 [I na] (.bool true), rn 32 (nqX na na) (.bool false), pc 95 [I nb] (.bool false)] _ rfl (fun w => ⟨pc_ok h95, rn_ok (nqX_false _), pc_ok h95b, trivial⟩) (fun γ => by kernel_rfl)
    | true =>
      rw [hb] at h95b
      exact pureAt_of Try.func50 rfl 8 [(SL og 0 2 2, .at_ 0)] [suE og (.slice aa na ca) (.slice ab nb cb) ot] [pc 95 [I na] (.bool true), rn 32 (nqX na na) (.bool false), pc 95 [I nb] (.bool true), rn 32 (nqX nb na) (.bool true)] _ rfl (fun w => ⟨pc_ok h95, rn_ok (nqX_false _), pc_ok h95b, rn_ok (nqX_true hne), trivial⟩) (fun γ => by kernel_rfl)

end Go.Proofs.Ytildcmggcbdhpaa
