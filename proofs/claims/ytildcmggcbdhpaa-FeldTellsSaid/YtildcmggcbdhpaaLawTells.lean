/- share.Eval; the law FeldTells, of slices as they come in. No conditions. -/
import Derived.Test.YtildcmggcbdhpaaLawFeld
namespace Go.Proofs.Ytildcmggcbdhpaa
open Go.Ex Go.RowKit Lim
set_option maxRecDepth 100000

section
variable {kg off cap : Nat} {kc : List Value} {kt : TypeId} {l : List Nat}
/-- share.Eval -/
theorem f47_good (H : NsH kc off l) (hd : deg l.length = true) (hs : scal l = true) {x : Nat} (hx : x ≤ 10) : PureAt [xE kg kc kt] 47 [SL kg off l.length cap, I (x : Nat)] (.tuple #[NV (hor x l.reverse), I 0]) := by
  have h88 := f88_good (kg := kg) (cap := cap) (kt := kt) H hd hs (x := x) (Nat.lt_of_le_of_lt hx (by decide))
  rw [← NX_eq hx] at h88
  have h95 := f95_ok (n := l.length)
  rw [hd] at h95
  generalize hor x l.reverse = v at *
  exact pureAt_of Try.func47 rfl 8 [(SL kg off l.length cap, .at_ 0), (I (x : Nat), .no)] [xE kg kc kt] [pc 95 [I l.length] (.bool true), rn 12 (ltZ x) (.bool false), rn 16 (gtT x) (.bool false), cvN 21 x, mc 88 [SL kg off l.length cap, NX x] [(0, xE kg kc kt)] (.tuple #[NV v, I 0])] _ rfl
    (fun w => ⟨pc_ok h95, rn_ok (ltZ_false (by omega)), rn_ok (gtT_false (by omega)), cvN_ok hx, mc_ok h88, trivial⟩) (fun γ => by kernel_rfl)

noncomputable def teK (d x s n : Nat) (l : List W9) (e : Nat) : Rec := ec (some d) [] 43 (fun σ => [SL (σ 0) 0 n (σ 10000), I (x : Nat), NV s]) (fun σ => [(2, rowE (σ 0) (wcs l) (σ 10000 - n))]) (I (e : Nat))
theorem teK_ok {w : World} {d x s : Nat} {l : List W9} (hl : ∀ p ∈ l, p.lt) (hn : l.length ≤ 64) (hd : deg l.length = true) (hx : x ≤ 10) (hp : pts l = true) (hs : s < R) : (teK d x s l.length l (chk s (valC x l))).Ok Try.prog w := by
  refine ec_ok Try.func43 (by kernel_rfl) rfl (fun σ => ?_)
  refine (f43_good (pg := σ 0) (cap := σ 10000) (pt' := 26) (PsH.flat (σ 10000 - l.length) hl hn) hd hx hp hs).of fun w hw e he => ?_
  simp only [List.mem_cons, List.not_mem_nil, or_false] at he
  subst he
  exact (hw (rowE (σ 0) (wcs l) (σ 10000 - l.length)) (by simp)).weak rfl rfl rfl rfl

noncomputable def teA (e : Ent) (kv : Value) (l : List Nat) : Rec := na 37 [kv] [(0, e)] 2 (comV l.length 0) (comN l) (.tup [.at_ 2, .no])
/-- wardmotelaw07.FeldTells -/
theorem law13_good (H : NsH kc off l) (hd : deg l.length = true) (hs : scal l = true) {x s : Nat} (hx : x ≤ 10) (hq : s < Q) : PureAt [xE kg kc kt] 13 [SL kg off l.length cap, I (x : Nat), NV s] (.bool true) := by
  have h47 := f47_good (kg := kg) (cap := cap) (kt := kt) H hd hs hx
  have hV := valC_coms x l
  have hv := hor_lt x l.reverse
  have hl := coms_len l
  have h1 : ∀ w : World, (teK 44 x (hor x l.reverse) l.length (coms l) 0).Ok Try.prog w := fun w => by
    have h := teK_ok (w := w) (d := 44) (x := x) (s := hor x l.reverse) (coms_lt l) (by rw [hl]; exact H.n) (by rw [hl]; exact hd) hx (coms_is l) (Nat.lt_trans hv Q_R)
    rw [hl, hV, chk_yes hv rfl] at h
    exact h
  have h2 := fun w : World => teK_ok (w := w) (d := 48) (x := x) (s := s) (coms_lt l) (by rw [hl]; exact H.n) (by rw [hl]; exact hd) hx (coms_is l) (Nat.lt_trans hq Q_R)
  rw [hl, hV] at h2
  have h46 := fQ s (Nat.lt_trans hq Q_R) (q := true) (decide_eq_true hq)
  generalize hor x l.reverse = v at *
  by_cases he : s = v
  · rw [he, chk_yes hv rfl] at h2
    rw [he] at h46 ⊢
    exact pureAt_of Try.func13 rfl 32 [(SL kg off l.length cap, .at_ 0), (I (x : Nat), .no), (NV v, .no)] [xE kg kc kt] [teA (xE kg kc kt) (SL kg off l.length cap) l, rn 22 (ltZ x) (.bool false), rn 26 (gtT x) (.bool false), pc 45 [] (FV Q CQ), pc 46 [FV Q CQ, NV v] (.bool true), mc 47 [SL kg off l.length cap, I (x : Nat)] [(0, xE kg kc kt)] (.tuple #[NV v, I 0]), teK 44 x v l.length (coms l) 0, teK 48 x v l.length (coms l) 0, eqB 60 v v true, pc 40 [] (.bool true)] _ rfl
      (fun w => ⟨na_ok (f37_good H hd hs), rn_ok (ltZ_false (by omega)), rn_ok (gtT_false (by omega)), pc_ok f45_ok, pc_ok h46, mc_ok h47, h1 w, h2 w, eqB_ok (Nat.lt_trans hv Q_R) (Nat.lt_trans hv Q_R) (decide_eq_true rfl), pc_ok f40_ok, trivial⟩) (fun γ => by kernel_rfl)
  · rw [chk_no hq hv he] at h2
    exact pureAt_of Try.func13 rfl 32 [(SL kg off l.length cap, .at_ 0), (I (x : Nat), .no), (NV s, .no)] [xE kg kc kt] [teA (xE kg kc kt) (SL kg off l.length cap) l, rn 22 (ltZ x) (.bool false), rn 26 (gtT x) (.bool false), pc 45 [] (FV Q CQ), pc 46 [FV Q CQ, NV s] (.bool true), mc 47 [SL kg off l.length cap, I (x : Nat)] [(0, xE kg kc kt)] (.tuple #[NV v, I 0]), teK 44 x v l.length (coms l) 0, teK 48 x s l.length (coms l) 70, eqB 60 s v false, pc 40 [] (.bool true)] _ rfl
      (fun w => ⟨na_ok (f37_good H hd hs), rn_ok (ltZ_false (by omega)), rn_ok (gtT_false (by omega)), pc_ok f45_ok, pc_ok h46, mc_ok h47, h1 w, h2 w, eqB_ok (Nat.lt_trans hq Q_R) (Nat.lt_trans hv Q_R) (decide_eq_false he), pc_ok f40_ok, trivial⟩) (fun γ => by kernel_rfl)
theorem law13_big (H : NsH kc off l) (hd : deg l.length = true) (hs : scal l = true) {x s : Nat} (hx : x ≤ 10) (hR : s < R) (hq : Q ≤ s) : PureAt [xE kg kc kt] 13 [SL kg off l.length cap, I (x : Nat), NV s] (.bool true) := by
  have h46 := fQ s hR (q := false) (decide_eq_false (by omega))
  exact pureAt_of Try.func13 rfl 32 [(SL kg off l.length cap, .at_ 0), (I (x : Nat), .no), (NV s, .no)] [xE kg kc kt] [teA (xE kg kc kt) (SL kg off l.length cap) l, rn 22 (ltZ x) (.bool false), rn 26 (gtT x) (.bool false), pc 45 [] (FV Q CQ), pc 46 [FV Q CQ, NV s] (.bool false), pc 40 [] (.bool true)] _ rfl
    (fun w => ⟨na_ok (f37_good H hd hs), rn_ok (ltZ_false (by omega)), rn_ok (gtT_false (by omega)), pc_ok f45_ok, pc_ok h46, pc_ok f40_ok, trivial⟩) (fun γ => by kernel_rfl)
theorem law13_nod (H : NsH kc off l) (hd : deg l.length = true) (hs : scal l = true) {x : Int} {s : Nat} (hx : nod x = false) : PureAt [xE kg kc kt] 13 [SL kg off l.length cap, I x, NV s] (.bool true) := by
  by_cases h0 : x < 0
  · exact pureAt_of Try.func13 rfl 32 [(SL kg off l.length cap, .at_ 0), (I x, .no), (NV s, .no)] [xE kg kc kt] [teA (xE kg kc kt) (SL kg off l.length cap) l, rn 22 (ltZ x) (.bool true), pc 40 [] (.bool true)] _ rfl
      (fun w => ⟨na_ok (f37_good H hd hs), rn_ok (ltZ_true h0), pc_ok f40_ok, trivial⟩) (fun γ => by kernel_rfl)
  · have h1 : x > 10 := by have := nod_false hx; omega
    exact pureAt_of Try.func13 rfl 32 [(SL kg off l.length cap, .at_ 0), (I x, .no), (NV s, .no)] [xE kg kc kt] [teA (xE kg kc kt) (SL kg off l.length cap) l, rn 22 (ltZ x) (.bool false), rn 26 (gtT x) (.bool true), pc 40 [] (.bool true)] _ rfl
      (fun w => ⟨na_ok (f37_good H hd hs), rn_ok (ltZ_false h0), rn_ok (gtT_true h1), pc_ok f40_ok, trivial⟩) (fun γ => by kernel_rfl)
theorem law13_rng (H : NsH kc off l) (hd : deg l.length = true) (hs : scal l = false) {x : Int} {s : Nat} : PureAt [xE kg kc kt] 13 [SL kg off l.length cap, I x, NV s] (.bool true) :=
  pureAt_of Try.func13 rfl 32 [(SL kg off l.length cap, .at_ 0), (I x, .no), (NV s, .no)] [xE kg kc kt] [mc 37 [SL kg off l.length cap] [(0, xE kg kc kt)] (.tuple #[.slice none 0 0, I 20]), pc 40 [] (.bool true)] _ rfl
    (fun w => ⟨mc_ok (f37_rng H hd hs), pc_ok f40_ok, trivial⟩) (fun γ => by kernel_rfl)
end
theorem law13_deg {ka : Option Addr} {n cap s : Nat} {x : Int} (hd : deg n = false) : Pure 13 [.slice ka n cap, I x, NV s] (.bool true) :=
  pure_of Try.func13 rfl 32 [.slice ka n cap, I x, NV s] [pc 37 [.slice ka n cap] (.tuple #[.slice none 0 0, I 1]), pc 40 [] (.bool true)] _
    (fun w => ⟨pc_ok (f37_deg hd), pc_ok f40_ok, trivial⟩) (fun γ => by kernel_rfl)

theorem law13_calls {W : World} {v0 : Value} {x : Int} {s : Nat} (h0 : NumsIn W v0) (hs : s < R) : Calls Try.prog 13 #[v0, I x, NV s] W fun e w' => e = .returned (.bool true) ∧ Below W.heap.size W w' := by
  rcases h0 with ⟨a, cap, rfl⟩ | ⟨kg, ko, kcap, kc, kt, ks, hk0, rfl, hk, hkR, hkc⟩
  · exact law13_deg (n := 0) rfl W
  · cases hd : deg ks.length with
    | false => exact law13_deg hd W
    | true =>
      have H : NsH kc ko ks := ⟨hkc, hkR, by have := (deg_true hd).2; omega⟩
      have hw : ∀ e ∈ [xE kg kc kt], e.holds W := fun e he => by
        simp only [List.mem_cons, List.not_mem_nil, or_false] at he
        subst he
        exact hk
      cases hs' : scal ks with
      | false => exact law13_rng H hd hs' W hw
      | true =>
        cases hx : nod x with
        | false => exact law13_nod H hd hs' hx W hw
        | true =>
          obtain ⟨m, rfl, hm⟩ := nod_true hx
          by_cases hq : s < Q
          · exact law13_good H hd hs' hm hq W hw
          · exact law13_big H hd hs' hm hs (by omega) W hw

end Go.Proofs.Ytildcmggcbdhpaa
