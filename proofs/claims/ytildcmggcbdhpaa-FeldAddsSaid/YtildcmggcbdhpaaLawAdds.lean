/- The law FeldAdds, of slices as they come in. No conditions. -/
import Derived.Test.YtildcmggcbdhpaaFeldT
namespace Go.Proofs.Ytildcmggcbdhpaa
open Go.Ex Go.RowKit Lim
set_option maxRecDepth 100000

/-- THE COMMITMENTS OF A SUM ARE THE SUMS OF THE COMMITMENTS -/
theorem ouR_coms {la lb : List Nat} (hl : lb.length = la.length) : ouR [coms la, coms lb] la.length = coms (addL la.length la lb) := by
  unfold ouR coms addL mixL
  rw [List.map_map]
  apply List.map_congr_left
  intro i hi
  have hi' : i < la.length := by simpa using hi
  simp only [Function.comp_apply, if_pos hi']
  unfold ouW com
  congr 2
  show Cp.o + cpT ((coms la)[i]?.getD W0) + cpT ((coms lb)[i]?.getD W0) = _
  have ea : (coms la)[i]?.getD W0 = com (la[i]?.getD 0) := by
    unfold coms
    rw [List.getElem?_map, List.getElem?_eq_getElem hi']
    rfl
  have eb : (coms lb)[i]?.getD W0 = com (lb[i]?.getD 0) := by
    unfold coms
    rw [List.getElem?_map, List.getElem?_eq_getElem (by omega)]
    rfl
  rw [ea, eb, cpT_com, cpT_com, Cp.o_add, Cp.mod_Q, Cp.mul_add]

/-- a sum of two lists of commitments that were made -/
noncomputable def ad48 (n : Nat) (la lb : List W9) : Rec :=
  .eff (some 49) [0] (fun σ => [(4, rowE (σ 100) (wcs la) (σ 10100 - n)), (5, rowE (σ 101) (wcs lb) (σ 10101 - n)), (7, ⟨σ 0, [SL (σ 100) 0 n (σ 10100), SL (σ 101) 0 n (σ 10101)], [], 40, true⟩)])
    (fun σ => callFunc 48 #[SL (σ 0) 0 2 2]) 1 (fun _ δ => suV n δ) (fun _ _ => []) (fun _ δ => suN [la, lb] n δ) (.tup [.at_ 8, .no])
theorem ad48_ok {w0 : World} {n : Nat} {la lb : List W9} (hd : deg n = true) (ha : la.length = n) (hb : lb.length = n) (hla : ∀ p ∈ la, p.lt) (hlb : ∀ p ∈ lb, p.lt) (hpa : pts la = true) (hpb : pts lb = true) : (ad48 n la lb).Ok Try.prog w0 := by
  intro σ w _ hneed _
  have hn := (deg_true hd).2
  have h1 := hneed _ List.mem_cons_self
  have h2 := hneed _ (List.mem_cons_of_mem _ List.mem_cons_self)
  have h3 := hneed _ (List.mem_cons_of_mem _ (List.mem_cons_of_mem _ List.mem_cons_self))
  dsimp only at h1 h2 h3
  have H : LsH w (σ 0) 0 [SL (σ 100) 0 n (σ 10100), SL (σ 101) 0 n (σ 10101)] 40 [SL (σ 100) 0 n (σ 10100), SL (σ 101) 0 n (σ 10101)] := ⟨h3.weak rfl rfl rfl rfl, fun i v hv => by rw [Nat.zero_add]; exact hv, fun v hv => by
    simp only [List.mem_cons, List.not_mem_nil, or_false] at hv
    rcases hv with rfl | rfl <;> exact ⟨_, _, _, rfl⟩, Nat.le_of_ble_eq_true rfl⟩
  have HL : LpH w n [SL (σ 100) 0 n (σ 10100), SL (σ 101) 0 n (σ 10101)] [la, lb] := ⟨fun i v hv => by
    rcases i with _ | _ | i
    · simp only [List.getElem?_cons_zero, Option.some.injEq] at hv
      subst hv
      exact ⟨la, rfl, σ 100, 0, σ 10100, _, 26, rfl, ha, h1.weak rfl rfl rfl rfl, PsH.flat (σ 10100 - n) hla (by omega)⟩
    · simp only [List.getElem?_cons_succ, List.getElem?_cons_zero, Option.some.injEq] at hv
      subst hv
      exact ⟨lb, rfl, σ 101, 0, σ 10101, _, 26, rfl, hb, h2.weak rfl rfl rfl rfl, PsH.flat (σ 10101 - n) hlb (by omega)⟩
    · simp at hv, rfl⟩
  refine .inr (.inr ⟨48, _, enter_run Try.func48 (by kernel_rfl) rfl _ w, ?_⟩)
  refine (f48_good (ocap := 2) H HL (Nat.zero_lt_succ _) hd (fun l hl => by
    simp only [List.mem_cons, List.not_mem_nil, or_false] at hl
    rcases hl with rfl | rfl
    · exact hpa
    · exact hpb)).mono ?_
  rintro e w' ⟨δ, g1, rfl, g3, g4, g5⟩
  exact ⟨_, rfl, δ, g1, rfl, g3.os, g3.tape, g3.output, g3.size, fun b hb _ => g3.block b hb, fun _ h => (by cases h), g4, fun _ h => (by cases h), fun _ h => (by cases h), g5⟩

noncomputable def ad37 (n : Nat) (ns : List Nat) : Rec := .call 37 (fun σ => [SL (σ 3) 0 n n]) (fun σ => [(3, noE (σ 3) (ncs ns))]) 2 (comV n 0) (comN ns) (.tup [.at_ 6, .no])
theorem ncs_NsH {ns : List Nat} (h : ∀ k ∈ ns, k < R) (hn : ns.length ≤ 64) : NsH (ncs ns) 0 ns where
  at_ := fun i k hk j v hv => by
    rw [Nat.zero_add]
    exact flat_get (f := nl) (c := 4) (fun _ => rfl) ns i j k v hk hv
  lt := h
  n := hn
theorem ad37_ok {w0 : World} {n : Nat} {ns : List Nat} (hl : ns.length = n) (hd : deg n = true) (hs : scal ns = true) : (ad37 n ns).Ok Try.prog w0 := fun σ w _ hneed => by
  have hn := (deg_true hd).2
  have h := f37_good (kg := σ 3) (cap := n) (kt := 24) (ncs_NsH (ns := ns) (fun k hk => Nat.lt_trans (scal_true hs k hk) Q_R) (by omega)) (by rw [hl]; exact hd) hs w (fun e he => by
    simp only [List.mem_cons, List.not_mem_nil, or_false] at he
    subst he
    exact (hneed (3, noE (σ 3) (ncs ns)) (by simp)).weak rfl rfl rfl rfl)
  rw [hl] at h
  exact h
noncomputable def ad50 (va vb : Value) (ea eb : Ent) (n : Nat) (ns : List Nat) : Rec := .call 50 (fun σ => [SL (σ 2) 0 2 2]) (fun σ => [(0, ea), (1, eb), (2, ⟨σ 2, [va, vb], [], 39, true⟩)]) 1 (shV n) (shN ns) (.tup [.at_ 3, .no])
noncomputable def poS3 (d j k n : Nat) (l : List W9) : Rec :=
  ec (some d) [] 39 (fun σ => [SL (σ 0) 0 n (σ 10000), SL (σ 1) 0 n n]) (fun σ => [(j, rowE (σ 0) (wcs l) (σ 10000 - n)), (k, ouE (σ 1) (wcs l))]) (.bool true)
theorem poS3_ok {w : World} {d j k : Nat} {l : List W9} (hl : ∀ p ∈ l, p.lt) (hn : l.length ≤ 64) : (poS3 d j k l.length l).Ok Try.prog w := by
  have e0 : wcs l ++ zs z9 0 = wcs l := by simp [zs, Builtin.zeroCells]
  refine ec_ok Try.func39 (by kernel_rfl) rfl (fun σ => ?_)
  refine (f39_ok (ga := σ 0) (gb := σ 1) (ca := σ 10000) (cb := l.length) (ta := 26) (tb := 26) (PsH.flat (σ 10000 - l.length) hl hn) (PsH.flat 0 hl hn)).of fun w hw e he => ?_
  simp only [List.mem_cons, List.not_mem_nil, or_false] at he
  rcases he with rfl | rfl
  · exact (hw (rowE (σ 0) (wcs l) (σ 10000 - l.length)) (by simp)).weak rfl rfl rfl rfl
  · rw [e0]
    exact (hw (ouE (σ 1) (wcs l)) (by simp)).weak rfl rfl rfl rfl

noncomputable def law15Recs (va vb : Value) (ea eb : Ent) (n : Nat) (la lb ns : List Nat) (os : List W9) : List Rec :=
  [ad50 va vb ea eb n ns, mc 51 [va] [(0, ea)] (.bool true), na 37 [va] [(0, ea)] 2 (comV n 0) (comN la) (.tup [.at_ 4, .no]), na 37 [vb] [(1, eb)] 2 (comV n 0) (comN lb) (.tup [.at_ 5, .no]), ad37 n ns, ad48 n (coms la) (coms lb), poS3 69 6 8 n os, pc 40 [] (.bool true)]
theorem law15_raw (ga oa ca gb ob cb n : Nat) (ka kb : List Value) (ta tb : TypeId) (la lb ns : List Nat) (os : List W9) (hla : la.length = n) (hlb : lb.length = n) (hns : ns.length = n) (hos : os = ouR [coms la, coms lb] n) (hos2 : os = coms ns) (γ : Nat → Nat) :
    outL Try.prog Try.f15.results.toList [] (exec Try.prog (Fx Try.f15) ⟨Ex.start Try.f15.ntmps [(SL ga oa n ca, .at_ 0), (SL gb ob n cb, .at_ 1)] [xE ga ka ta, xE gb kb tb], (List.range 16).map γ, law15Recs (SL ga oa n ca) (SL gb ob n cb) (xE ga ka ta) (xE gb kb tb) n la lb ns os, []⟩) =
      outR Try.prog Try.f15.results.toList [] (.bool true) (exec Try.prog (Fx Try.f15) ⟨Ex.start Try.f15.ntmps [(SL ga oa n ca, .at_ 0), (SL gb ob n cb, .at_ 1)] [xE ga ka ta, xE gb kb tb], (List.range 16).map γ, law15Recs (SL ga oa n ca) (SL gb ob n cb) (xE ga ka ta) (xE gb kb tb) n la lb ns os, []⟩) := by
  unfold law15Recs ad37 ad48 ad50 comN suN shN
  rw [show (List.range n).map (ouW [coms la, coms lb]) = os from hos.symm, ← hos2]
  rw [hla, hlb, hns]
  clear hos hos2
  generalize coms la = pa at *
  generalize coms lb = pb at *
  kernel_rfl

section
variable {ga oa ca gb ob cb : Nat} {ka kb : List Value} {ta tb : TypeId} {la lb : List Nat}
theorem law15_good (Ha : NsH ka oa la) (Hb : NsH kb ob lb) (hd : deg la.length = true) (hl : lb.length = la.length) (hsa : scal la = true) (hsb : scal lb = true) :
    PureAt [xE ga ka ta, xE gb kb tb] 15 [SL ga oa la.length ca, SL gb ob la.length cb] (.bool true) := by
  have hn := (deg_true hd).2
  have h50 : ∀ w : World, (ad50 (SL ga oa la.length ca) (SL gb ob la.length cb) (xE ga ka ta) (xE gb kb tb) la.length (addL la.length la lb)).Ok Try.prog w := fun w0 σ w _ hneed =>
    f50_good (og := σ 2) (ot := 39) (ca := ca) (cb := cb) (ta := ta) (tb := tb) (ga := ga) (gb := gb) Ha Hb hd hl hsa hsb w (fun e he => by
      simp only [List.mem_cons, List.not_mem_nil, or_false] at he
      rcases he with rfl | rfl | rfl
      · exact (hneed (2, ⟨σ 2, [SL ga oa la.length ca, SL gb ob la.length cb], [], 39, true⟩) (by simp)).weak rfl rfl rfl rfl
      · exact hneed (0, xE ga ka ta) (by simp)
      · exact hneed (1, xE gb kb tb) (by simp))
  have h51 := f51_ok (kg := ga) (cap := ca) (kt := ta) Ha
  rw [hsa] at h51
  have h37a := f37_good (kg := ga) (cap := ca) (kt := ta) Ha hd hsa
  have h37b := f37_good (kg := gb) (cap := cb) (kt := tb) Hb (by rw [hl]; exact hd) hsb
  rw [hl] at h37b
  have hns : (addL la.length la lb).length = la.length := mixL_len _ _ _ _
  have hsn : scal (addL la.length la lb) = true := scal_of (mixL_lt (scal_true hsa))
  have h37 := fun w : World => ad37_ok (w0 := w) hns hd hsn
  have h48 := fun w : World => ad48_ok (w0 := w) hd (coms_len la) (by rw [coms_len, hl]) (coms_lt la) (coms_lt lb) (coms_is la) (coms_is lb)
  have hpo := fun w : World => poS3_ok (w := w) (d := 69) (j := 6) (k := 8) (l := coms (addL la.length la lb)) (coms_lt _) (by rw [coms_len, hns]; omega)
  rw [coms_len, hns] at hpo
  have hr := ouR_coms hl
  exact pureAt_of Try.func15 rfl 16 [(SL ga oa la.length ca, .at_ 0), (SL gb ob la.length cb, .at_ 1)] [xE ga ka ta, xE gb kb tb] (law15Recs (SL ga oa la.length ca) (SL gb ob la.length cb) (xE ga ka ta) (xE gb kb tb) la.length la lb (addL la.length la lb) (coms (addL la.length la lb))) _ rfl
    (fun w => ⟨h50 w, mc_ok h51, na_ok h37a, na_ok h37b, h37 w, h48 w, hpo w, pc_ok f40_ok, trivial⟩) (fun γ => law15_raw ga oa ca gb ob cb la.length ka kb ta tb la lb _ _ rfl hl hns hr.symm rfl γ)
noncomputable def ad50e (va vb : Value) (ents : List (Nat × Ent)) (j e : Nat) : Rec := .call 50 (fun σ => [SL (σ j) 0 2 2]) (fun σ => (j, ⟨σ j, [va, vb], [], 39, true⟩) :: ents) 0 (fun _ => .tuple #[.slice none 0 0, I (e : Nat)]) (fun _ => []) .no
theorem ad50e_ok {w0 : World} {va vb : Value} {ents : List (Nat × Ent)} {j e : Nat} (h : ∀ og, PureAt (suE og va vb 39 :: ents.map (·.2)) 50 [SL og 0 2 2] (.tuple #[.slice none 0 0, I (e : Nat)])) : (ad50e va vb ents j e).Ok Try.prog w0 :=
  Rec.ok_call fun σ w _ hn => h (σ j) w fun e he => by
    simp only [List.mem_cons] at he
    rcases he with rfl | he
    · exact (hn (j, ⟨σ j, [va, vb], [], 39, true⟩) (by simp)).weak rfl rfl rfl rfl
    · rw [List.mem_map] at he
      obtain ⟨p, hp, rfl⟩ := he
      exact hn p (List.mem_cons_of_mem _ hp)
theorem law15_rngA (Ha : NsH ka oa la) (hd : deg la.length = true) (hsa : scal la = false) :
    PureAt [xE ga ka ta] 15 [SL ga oa la.length ca, SL gb ob la.length cb] (.bool true) := by
  have h := fun og => f50_rngA (og := og) (ga := ga) (ca := ca) (ta := ta) (gb := gb) (ob := ob) (cb := cb) (ot := 39) Ha hd hsa
  generalize la.length = n at *
  exact pureAt_of Try.func15 rfl 16 [(SL ga oa n ca, .at_ 0), (SL gb ob n cb, .no)] [xE ga ka ta] [ad50e (SL ga oa n ca) (SL gb ob n cb) [(0, xE ga ka ta)] 1 20, pc 40 [] (.bool true)] _ rfl
    (fun w => ⟨ad50e_ok h, pc_ok f40_ok, trivial⟩) (fun γ => by kernel_rfl)
theorem law15_rngB (Ha : NsH ka oa la) (Hb : NsH kb ob lb) (hd : deg la.length = true) (hl : lb.length = la.length) (hsa : scal la = true) (hsb : scal lb = false) :
    PureAt [xE ga ka ta, xE gb kb tb] 15 [SL ga oa la.length ca, SL gb ob la.length cb] (.bool true) := by
  have h := fun og => f50_rngB (og := og) (ga := ga) (ca := ca) (ta := ta) (gb := gb) (cb := cb) (tb := tb) (ot := 39) Ha Hb hd hl hsa hsb
  generalize la.length = n at *
  exact pureAt_of Try.func15 rfl 16 [(SL ga oa n ca, .at_ 0), (SL gb ob n cb, .at_ 1)] [xE ga ka ta, xE gb kb tb] [ad50e (SL ga oa n ca) (SL gb ob n cb) [(0, xE ga ka ta), (1, xE gb kb tb)] 2 20, pc 40 [] (.bool true)] _ rfl
    (fun w => ⟨ad50e_ok h, pc_ok f40_ok, trivial⟩) (fun γ => by kernel_rfl)
end
theorem law15_len {na ca nb cb : Nat} {aa ab : Option Addr} (h : deg na = false ∨ nb ≠ na) : Pure 15 [.slice aa na ca, .slice ab nb cb] (.bool true) := by
  have h50 := fun og => f50_len (og := og) (ca := ca) (cb := cb) (aa := aa) (ab := ab) (ot := 39) h
  exact pure_of Try.func15 rfl 16 [.slice aa na ca, .slice ab nb cb] [ad50e (.slice aa na ca) (.slice ab nb cb) [] 0 1, pc 40 [] (.bool true)] _ (fun w => ⟨ad50e_ok h50, pc_ok f40_ok, trivial⟩) (fun γ => by kernel_rfl)

/-- wardmotelaw07.FeldAdds -/
theorem law15_calls {W : World} {v0 v1 : Value} (h0 : NumsIn W v0) (h1 : NumsIn W v1) : Calls Try.prog 15 #[v0, v1] W fun e w' => e = .returned (.bool true) ∧ Below W.heap.size W w' := by
  have zero : ∀ (a : Option Addr) (cap : Nat) (v1 : Value), (∃ b n c, v1 = .slice b n c) → Calls Try.prog 15 #[.slice a 0 cap, v1] W fun e w' => e = .returned (.bool true) ∧ Below W.heap.size W w' := fun a cap v1 ⟨b, n, c, hv⟩ => by
    rw [hv]
    exact law15_len (.inl rfl) W
  rcases h0 with ⟨a, cap, rfl⟩ | ⟨ga, oa, ca, ka, ta, la, hla, rfl, ha, haR, hac⟩
  · rcases h1 with ⟨b, cap', rfl⟩ | ⟨gb, ob, cb, kb, tb, lb, hlb, rfl, _⟩
    · exact zero _ _ _ ⟨_, _, _, rfl⟩
    · exact zero _ _ _ ⟨_, _, _, rfl⟩
  · cases hd : deg la.length with
    | false =>
      rcases h1 with ⟨b, cap', rfl⟩ | ⟨gb, ob, cb, kb, tb, lb, hlb, rfl, _⟩
      · exact law15_len (.inl hd) W
      · exact law15_len (.inl hd) W
    | true =>
      rcases h1 with ⟨b, cap', rfl⟩ | ⟨gb, ob, cb, kb, tb, lb, hlb, rfl, hb, hbR, hbc⟩
      · exact law15_len (.inr (by omega)) W
      · by_cases hl : lb.length = la.length
        · have hn := (deg_true hd).2
          have Ha : NsH ka oa la := ⟨hac, haR, by omega⟩
          have Hb : NsH kb ob lb := ⟨hbc, hbR, by omega⟩
          have hw2 : ∀ e ∈ [xE ga ka ta, xE gb kb tb], e.holds W := fun e he => by
            simp only [List.mem_cons, List.not_mem_nil, or_false] at he
            rcases he with rfl | rfl
            · exact ha
            · exact hb
          rw [show SL gb ob lb.length cb = SL gb ob la.length cb by rw [hl]]
          cases hsa : scal la with
          | false => exact law15_rngA (ta := ta) Ha hd hsa W (fun e he => hw2 e (by simp only [List.mem_cons, List.not_mem_nil, or_false] at he; subst he; simp))
          | true =>
            cases hsb : scal lb with
            | false => exact law15_rngB Ha Hb hd hl hsa hsb W hw2
            | true => exact law15_good Ha Hb hd hl hsa hsb W hw2
        · exact law15_len (.inr hl) W

end Go.Proofs.Ytildcmggcbdhpaa
