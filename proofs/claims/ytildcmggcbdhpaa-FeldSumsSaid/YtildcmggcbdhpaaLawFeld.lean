/- The law FeldCommits, of slices as they come in. No conditions. -/
import Derived.Test.YtildcmggcbdhpaaFeldG
namespace Go.Proofs.Ytildcmggcbdhpaa
open Go.Ex Go.RowKit Lim
set_option maxRecDepth 100000

noncomputable def poC (d j k n : Nat) (l : List W9) : Rec :=
  ec (some d) [] 39 (fun σ => [SL (σ 0) 0 n (σ 10000), SL (σ 1) 0 n (σ 10001)]) (fun σ => [(j, rowE (σ 0) (wcs l) (σ 10000 - n)), (k, rowE (σ 1) (wcs l) (σ 10001 - n))]) (.bool true)
theorem poC_ok {w : World} {d j k : Nat} {l : List W9} (hl : ∀ p ∈ l, p.lt) (hn : l.length ≤ 64) : (poC d j k l.length l).Ok Try.prog w := by
  refine ec_ok Try.func39 (by kernel_rfl) rfl (fun σ => ?_)
  refine (f39_ok (ga := σ 0) (gb := σ 1) (ca := σ 10000) (cb := σ 10001) (ta := 26) (tb := 26) (PsH.flat (σ 10000 - l.length) hl hn) (PsH.flat (σ 10001 - l.length) hl hn)).of fun w hw e he => ?_
  simp only [List.mem_cons, List.not_mem_nil, or_false] at he
  rcases he with rfl | rfl
  · exact (hw (rowE (σ 0) (wcs l) (σ 10000 - l.length)) (by simp)).weak rfl rfl rfl rfl
  · exact (hw (rowE (σ 1) (wcs l) (σ 10001 - l.length)) (by simp)).weak rfl rfl rfl rfl

noncomputable def law11Recs (e : Ent) (kv : Value) (l : List Nat) : List Rec :=
  [na 37 [kv] [(0, e)] 2 (comV l.length 0) (comN l) (.tup [.at_ 1, .no]), na 38 [kv] [(0, e)] 2 (comV l.length 0) (comN l) (.tup [.at_ 2, .no]), poC 19 1 2 l.length (coms l), pc 40 [] (.bool true)]
theorem law11_good {kg off cap : Nat} {kc : List Value} {kt : TypeId} {l : List Nat} (H : NsH kc off l) (hd : deg l.length = true) (hs : scal l = true) : PureAt [xE kg kc kt] 11 [SL kg off l.length cap] (.bool true) := by
  have hp : ∀ w : World, (poC 19 1 2 l.length (coms l)).Ok Try.prog w := fun w => by
    have h := poC_ok (w := w) (d := 19) (j := 1) (k := 2) (l := coms l) (coms_lt l) (by rw [coms_len]; exact H.n)
    rw [coms_len] at h
    exact h
  exact pureAt_of Try.func11 rfl 16 [(SL kg off l.length cap, .at_ 0)] [xE kg kc kt] (law11Recs (xE kg kc kt) (SL kg off l.length cap) l) _ rfl
    (fun w => ⟨na_ok (f37_good H hd hs), na_ok (f38_good H hd hs), hp w, pc_ok f40_ok, trivial⟩) (fun γ => by kernel_rfl)
theorem law11_rng {kg off cap : Nat} {kc : List Value} {kt : TypeId} {l : List Nat} (H : NsH kc off l) (hd : deg l.length = true) (hs : scal l = false) : PureAt [xE kg kc kt] 11 [SL kg off l.length cap] (.bool true) :=
  pureAt_of Try.func11 rfl 16 [(SL kg off l.length cap, .at_ 0)] [xE kg kc kt] [mc 37 [SL kg off l.length cap] [(0, xE kg kc kt)] (.tuple #[.slice none 0 0, I 20]), mc 38 [SL kg off l.length cap] [(0, xE kg kc kt)] (.tuple #[.slice none 0 0, I 20]), pc 39 [.slice none 0 0, .slice none 0 0] (.bool true), pc 40 [] (.bool true)] _ rfl
    (fun w => ⟨mc_ok (f37_rng H hd hs), mc_ok (f38_rng H hd hs), pc_ok f39_nil, pc_ok f40_ok, trivial⟩) (fun γ => by kernel_rfl)
theorem law11_deg {ka : Option Addr} {n cap : Nat} (hd : deg n = false) : Pure 11 [.slice ka n cap] (.bool true) :=
  pure_of Try.func11 rfl 16 [.slice ka n cap] [pc 37 [.slice ka n cap] (.tuple #[.slice none 0 0, I 1]), pc 38 [.slice ka n cap] (.tuple #[.slice none 0 0, I 1]), pc 39 [.slice none 0 0, .slice none 0 0] (.bool true), pc 40 [] (.bool true)] _
    (fun w => ⟨pc_ok (f37_deg hd), pc_ok (f38_deg hd), pc_ok f39_nil, pc_ok f40_ok, trivial⟩) (fun γ => by kernel_rfl)

theorem law11_calls {W : World} {v0 : Value} (h0 : NumsIn W v0) : Calls Try.prog 11 #[v0] W fun e w' => e = .returned (.bool true) ∧ Below W.heap.size W w' := by
  rcases h0 with ⟨a, cap, rfl⟩ | ⟨kg, ko, kcap, kc, kt, ks, hk0, rfl, hk, hkR, hkc⟩
  · exact law11_deg (n := 0) rfl W
  · cases hd : deg ks.length with
    | false => exact law11_deg hd W
    | true =>
      have H : NsH kc ko ks := ⟨hkc, hkR, by have := (deg_true hd).2; omega⟩
      have hw : ∀ e ∈ [xE kg kc kt], e.holds W := fun e he => by
        simp only [List.mem_cons, List.not_mem_nil, or_false] at he
        subst he
        exact hk
      cases hs : scal ks with
      | true => exact law11_good H hd hs W hw
      | false => exact law11_rng H hd hs W hw

end Go.Proofs.Ytildcmggcbdhpaa
