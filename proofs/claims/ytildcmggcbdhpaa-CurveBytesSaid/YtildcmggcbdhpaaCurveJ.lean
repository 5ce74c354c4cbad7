/- Points as bytes: the document's decoding; there and back; the law CurveBytes as a function. No conditions but that numbers are below R. -/
import Derived.Test.YtildcmggcbdhpaaCurveI
namespace Go.Proofs.Ytildcmggcbdhpaa
open Go.Ex Go.RowKit Lim
set_option maxRecDepth 100000
set_option exponentiation.threshold 600

noncomputable def dzL : Code := (loopsOf (Fx Try.f36)).getD 0 .skip
def dzS (s : ByteArray) (gl : List Nat) (i : Nat) : St := ⟨frOf 73 [(0, SV s), (2, PT (gl.getD 0 0)), (4, I (i : Nat))], tgOf 73 [(2, .at_ 0)], [ptE (gl.getD 0 0) 0 0 false]⟩
def dzE (gl : List Nat) : St := ⟨frOf 73 [(2, PT (gl.getD 0 0)), (3, I 4)], tgOf 73 [(2, .at_ 0)], [ptE (gl.getD 0 0) 0 0 false]⟩
theorem dz_go (s : ByteArray) (i : Nat) (gl : List Nat) (γ : Nat → Nat) :
    endL (dzS s gl (i + 1)) (exec Try.prog dzL ⟨dzS s gl i, (List.range 8).map γ, [rn 33 (lsX i 33) (.bool true), ixV 38 s i 0, rn 35 (adX i) (I (i + 1 : Nat))], []⟩) =
      endR .normal (dzS s gl (i + 1)) (exec Try.prog dzL ⟨dzS s gl i, (List.range 8).map γ, [rn 33 (lsX i 33) (.bool true), ixV 38 s i 0, rn 35 (adX i) (I (i + 1 : Nat))], []⟩) := by kernel_rfl
theorem dz_out (s : ByteArray) (i : Nat) (gl : List Nat) (γ : Nat → Nat) :
    endL (dzS s gl i) (exec Try.prog dzL ⟨dzS s gl i, (List.range 8).map γ, [rn 33 (lsX i 33) (.bool false)], []⟩) =
      endR (.exit 0) (dzS s gl i) (exec Try.prog dzL ⟨dzS s gl i, (List.range 8).map γ, [rn 33 (lsX i 33) (.bool false)], []⟩) := by kernel_rfl
theorem dz_bad (s : ByteArray) (i b : Nat) (gl : List Nat) (γ : Nat → Nat) :
    endL (dzE gl) (exec Try.prog dzL ⟨dzS s gl i, (List.range 8).map γ, [rn 33 (lsX i 33) (.bool true), ixV 38 s i b, rn 39 (nq8 b 0) (.bool true)], []⟩) =
      endR .ret (dzE gl) (exec Try.prog dzL ⟨dzS s gl i, (List.range 8).map γ, [rn 33 (lsX i 33) (.bool true), ixV 38 s i b, rn 39 (nq8 b 0) (.bool true)], []⟩) := by kernel_rfl
noncomputable def dzGood (s : ByteArray) : Rec := .code dzL (fun gl => dzS s gl 0) (fun gl => dzS s gl 33) (.exit 0)
noncomputable def dzBad (s : ByteArray) : Rec := .code dzL (fun gl => dzS s gl 0) (fun gl => dzE gl) .ret
theorem dz_next {s : ByteArray} (hs : s.size = 33) {i : Nat} (hi : i < 33) (h : sb s i = 0) (w0 : World) : RecsOk w0 [rn 33 (lsX i 33) (.bool true), ixV 38 s i 0, rn 35 (adX i) (I (i + 1 : Nat))] :=
  ⟨rn_ok (lsX_true hi), ixV_ok (by omega) h, rn_ok (adX_eq (by omega)), trivial⟩
theorem dzGood_ok {s : ByteArray} (hs : s.size = 33) (h : ∀ i, i < 33 → sb s i = 0) {w0 : World} : (dzGood s).Ok Try.prog w0 := by
  refine Rec.ok_code follows (fun gl i => dzS s gl i) (fun i => i ≤ 33) (fun i => 33 - i) (.exit 0) (fun gl => dzS s gl 33) (fun h => by cases h) 0 (Nat.zero_le _) (fun gl i hi => ?_)
  by_cases hlt : i < 33
  · exact .go (i + 1) (by omega) (by omega) 8 _ (dz_next hs hlt (h i hlt) w0).all (fun γ => dz_go s i gl γ)
  · have e : i = 33 := by omega
    subst e
    exact .stop 8 [rn 33 (lsX 33 33) (.bool false)] (RecsOk.all ⟨rn_ok (lsX_false (Nat.le_refl _)), trivial⟩) (fun γ => dz_out s 33 gl γ)
theorem dzBad_ok {s : ByteArray} (hs : s.size = 33) {i0 : Nat} (hi0 : i0 < 33) (h : ∀ i, i < i0 → sb s i = 0) (hb : sb s i0 ≠ 0) {w0 : World} : (dzBad s).Ok Try.prog w0 := by
  refine Rec.ok_code follows (fun gl i => dzS s gl i) (fun i => i ≤ i0) (fun i => i0 - i) .ret (fun gl => dzE gl) (fun h => by cases h) 0 (Nat.zero_le _) (fun gl i hi => ?_)
  by_cases hlt : i < i0
  · exact .go (i + 1) (by omega) (by omega) 8 _ (dz_next hs (by omega) (h i hlt) w0).all (fun γ => dz_go s i gl γ)
  · have e : i = i0 := by omega
    subst e
    exact .stop 8 [rn 33 (lsX i 33) (.bool true), ixV 38 s i (sb s i), rn 39 (nq8 (sb s i) 0) (.bool true)] (RecsOk.all ⟨rn_ok (lsX_true hi0), ixV_ok (by omega) rfl, rn_ok (nq8_true hb), trivial⟩) (fun γ => dz_bad s i (sb s i) gl γ)

theorem zeros_sb {k : Nat} (h : k < 33) : sb (bsOf zeros33) k = 0 := sb_bsOf (l := zeros33) (fun n hn => by
    have := List.eq_of_mem_replicate hn
    omega) (by unfold zeros33; rw [List.getElem?_replicate, if_pos h])
theorem zeros_size : (bsOf zeros33).size = 33 := bsOf_size _
theorem zeros_iff {s : ByteArray} (hs : s.size = 33) : s = bsOf zeros33 ↔ ∀ i, i < 33 → sb s i = 0 := by
  constructor
  · intro h i hi
    rw [h]
    exact zeros_sb hi
  · intro h
    exact bs_ext (by rw [hs, zeros_size]) (fun k hk => by rw [h k (by omega), zeros_sb (by omega)])
theorem first_nz {s : ByteArray} (h : ¬ ∀ i, i < 33 → sb s i = 0) : ∃ i, i < 33 ∧ (∀ j, j < i → sb s j = 0) ∧ sb s i ≠ 0 := by
  have key : ∀ n, n ≤ 33 → (∀ i, i < n → sb s i = 0) ∨ ∃ i, i < 33 ∧ (∀ j, j < i → sb s j = 0) ∧ sb s i ≠ 0 := by
    intro n
    induction n with
    | zero => intro _; exact .inl fun i hi => by omega
    | succ n ih =>
      intro hn
      rcases ih (by omega) with h1 | h1
      · by_cases h2 : sb s n = 0
        · exact .inl fun i hi => by
            by_cases hin : i = n
            · rw [hin]; exact h2
            · exact h1 i (by omega)
        · exact .inr ⟨n, by omega, h1, h2⟩
      · exact .inr h1
  rcases key 33 (Nat.le_refl _) with h1 | h1
  · exact absurd h1 h
  · exact h1

/-- wardmoteref03.Decode -/
def slR (s t : ByteArray) : Rec := opF 46 (Instr.sliceAt 9 (.string s) (some (.int .i64 1)) none none) (.string t)
theorem f36_ok (s : ByteArray) : Pure 36 [SV s] (decV (decW s)) := by
  unfold decW
  by_cases hs : s.size = 33
  · rw [if_neg (not_not_intro hs)]
    by_cases h0 : sb s 0 = 0
    · rw [if_pos h0]
      by_cases hz : s = bsOf zeros33
      · rw [if_pos hz]
        exact pure_of Try.func36 rfl 8 [SV s] (dc0 s 2 ++ [dzGood s]) _ (fun w => (dc0_ok hs h0).append ⟨dzGood_ok hs ((zeros_iff hs).1 hz), trivial⟩) (fun γ => by kernel_rfl)
      · rw [if_neg hz]
        obtain ⟨i, hi, h1, h2⟩ := first_nz (fun h => hz ((zeros_iff hs).2 h))
        exact pure_of Try.func36 rfl 8 [SV s] (dc0 s 2 ++ [dzBad s]) _ (fun w => (dc0_ok hs h0).append ⟨dzBad_ok hs hi h1 h2, trivial⟩) (fun γ => by kernel_rfl)
    · rw [if_neg h0]
      by_cases hb : sb s 0 ≠ 2 ∧ sb s 0 ≠ 3
      · rw [if_pos hb]
        have hr := fun w : World => dcBad_ok (w := w) (k := 2) hs h0 hb.1 hb.2
        generalize sb s 0 = b at *
        exact pure_of Try.func36 rfl 8 [SV s] (dcBad s 2 b) _ hr (fun γ => by kernel_rfl)
      · rw [if_neg hb]
        have ht := tl_size hs
        have hsl : ∀ w0 : World, (slR s (tl s)).Ok Try.prog w0 := fun w0 => slF_ok (w0 := w0) (d := 46) hs
        by_cases hP : P ≤ nS (tl s)
        · rw [if_pos hP]
          have h86 := f86_out ht hP
          by_cases h2 : sb s 0 = 2
          · generalize tl s = t at *
            exact pure_of Try.func36 rfl 8 [SV s] (dc2 s 2 ++ [pc 65 [] (FV P CP), slR s t, pc 86 [FV P CP, SV t] (.tuple #[NV 0, I 20])]) _ (fun w => (dc2_ok hs h2).append ⟨pc_ok f65_ok, hsl w, pc_ok h86, trivial⟩) (fun γ => by kernel_rfl)
          · have h3 : sb s 0 = 3 := by omega
            generalize tl s = t at *
            exact pure_of Try.func36 rfl 8 [SV s] (dc3 s 2 ++ [pc 65 [] (FV P CP), slR s t, pc 86 [FV P CP, SV t] (.tuple #[NV 0, I 20])]) _ (fun w => (dc3_ok hs h3).append ⟨pc_ok f65_ok, hsl w, pc_ok h86, trivial⟩) (fun γ => by kernel_rfl)
        · rw [if_neg hP]
          have hn : nS (tl s) < P := by omega
          have h86 := f86_in ht hn
          have h67 := f67_ok (ltR hn)
          have hcl : cub (nS (tl s)) < P := fadd_lt _ _
          by_cases hq : fmul (rootOf (cub (nS (tl s)))) (rootOf (cub (nS (tl s)))) ≠ cub (nS (tl s))
          · rw [if_pos hq]
            have h87 := f87_no hcl hq
            generalize cub (nS (tl s)) = c at *
            generalize nS (tl s) = n at *
            generalize tl s = t at *
            by_cases h2 : sb s 0 = 2
            · exact pure_of Try.func36 rfl 8 [SV s] (dc2 s 2 ++ [pc 65 [] (FV P CP), slR s t, pc 86 [FV P CP, SV t] (.tuple #[NV n, I 0]), pc 67 [NV n] (NV c), pc 87 [FV P CP, NV c, .bool true] (.tuple #[NV 0, I 22])]) _
                (fun w => (dc2_ok hs h2).append ⟨pc_ok f65_ok, hsl w, pc_ok h86, pc_ok h67, pc_ok h87, trivial⟩) (fun γ => by kernel_rfl)
            · have h3 : sb s 0 = 3 := by omega
              exact pure_of Try.func36 rfl 8 [SV s] (dc3 s 2 ++ [pc 65 [] (FV P CP), slR s t, pc 86 [FV P CP, SV t] (.tuple #[NV n, I 0]), pc 67 [NV n] (NV c), pc 87 [FV P CP, NV c, .bool true] (.tuple #[NV 0, I 22])]) _
                (fun w => (dc3_ok hs h3).append ⟨pc_ok f65_ok, hsl w, pc_ok h86, pc_ok h67, pc_ok h87, trivial⟩) (fun γ => by kernel_rfl)
          · rw [if_neg hq]
            have h87 := f87_yes hcl (Classical.not_not.1 hq)
            have hel := evenRoot_lt (cub (nS (tl s)))
            have h70 : Pure 70 [FV P CP, NV 0, NV (evenRoot (cub (nS (tl s))))] (NV (fsub 0 (evenRoot (cub (nS (tl s)))))) := f70_ok P_R P_pos hel
            generalize fsub 0 (evenRoot (cub (nS (tl s)))) = f at *
            generalize evenRoot (cub (nS (tl s))) = r at *
            generalize cub (nS (tl s)) = c at *
            generalize nS (tl s) = n at *
            generalize tl s = t at *
            by_cases h2 : sb s 0 = 2
            · rw [if_neg (by omega)]
              exact pure_of Try.func36 rfl 8 [SV s] (dc2 s 2 ++ [pc 65 [] (FV P CP), slR s t, pc 86 [FV P CP, SV t] (.tuple #[NV n, I 0]), pc 67 [NV n] (NV c), pc 87 [FV P CP, NV c, .bool true] (.tuple #[NV r, I 0]), ixV 64 s 0 2]) _
                (fun w => (dc2_ok hs h2).append ⟨pc_ok f65_ok, hsl w, pc_ok h86, pc_ok h67, pc_ok h87, ixV_ok (by omega) h2, trivial⟩) (fun γ => by kernel_rfl)
            · have h3 : sb s 0 = 3 := by omega
              rw [if_pos h3]
              exact pure_of Try.func36 rfl 8 [SV s] (dc3 s 2 ++ [pc 65 [] (FV P CP), slR s t, pc 86 [FV P CP, SV t] (.tuple #[NV n, I 0]), pc 67 [NV n] (NV c), pc 87 [FV P CP, NV c, .bool true] (.tuple #[NV r, I 0]), ixV 64 s 0 3, pc 70 [FV P CP, NV 0, NV r] (NV f)]) _
                (fun w => (dc3_ok hs h3).append ⟨pc_ok f65_ok, hsl w, pc_ok h86, pc_ok h67, pc_ok h87, ixV_ok (by omega) h3, pc_ok h70, trivial⟩) (fun γ => by kernel_rfl)
  · rw [if_pos hs]
    exact pure_of Try.func36 rfl 8 [SV s] [rn 12 (nqX s.size 33) (.bool true)] _ (fun w => ⟨rn_ok (nqX_true hs), trivial⟩) (fun γ => by kernel_rfl)

/-- what is decoded is encoded as it was -/
theorem neg_sq {a : Nat} (ha : a < P) : fmul (fsub 0 a) (fsub 0 a) = fmul a a := by
  apply toK_inj (fmul_lt _ _) (fmul_lt _ _)
  rw [toK_fmul, toK_fmul, toK_fsub ha, toK_zero]
  grind
theorem even_par (a : Nat) : evenRoot a % 2 = 0 := by
  unfold evenRoot
  have hl := rootOf_lt a
  split
  · rename_i h
    rw [fsub_par hl (by omega)]
    omega
  · omega
theorem even_sq (a : Nat) : fmul (evenRoot a) (evenRoot a) = fmul (rootOf a) (rootOf a) := by
  unfold evenRoot
  split
  · exact neg_sq (rootOf_lt a)
  · rfl
theorem cub_ne {x : Nat} : cub x ≠ 0 := fun h => by
  have e := congrArg toK h
  rw [toK_cub, toK_zero] at e
  exact isCurve.nz _ e
theorem enc_eq {s : ByteArray} (hs : s.size = 33) {t : Nat} (ht : sb s 0 = t) (ht2 : t < 256) : bsOf (t :: be (nS (tl s))) = s := by
  refine bs_ext (by rw [bsOf_size, List.length_cons, be_len, hs]) (fun k hk => ?_)
  rw [bsOf_size, List.length_cons, be_len] at hk
  have hall : ∀ n ∈ t :: be (nS (tl s)), n < 256 := fun n hn => by
    rcases List.mem_cons.1 hn with rfl | hn
    · exact ht2
    · exact be_lt _ n hn
  cases k with
  | zero => rw [sb_bsOf hall (n := t) rfl, ht]
  | succ k =>
    have h1 : (be (nS (tl s)))[k]? = some (by_ (nS (tl s)) (31 - k)) := be_get _ (by omega)
    have h2 : (t :: be (nS (tl s)))[k + 1]? = some (by_ (nS (tl s)) (31 - k)) := by rw [List.getElem?_cons_succ]; exact h1
    rw [sb_bsOf hall h2, ← tl_sb hs (show k < 32 by omega), ← sb_bsOf (be_lt _) h1, be_nS (tl_size hs)]

theorem encB_aff (x y : Nat) : encB ⟨x, y, false⟩ = bsOf ((2 + y % 2) :: be x) := rfl
theorem isPt_aff {x y : Nat} (hx : x < P) (hy : y < P) (h : fmul y y = cub x) : isPt x y false = true := by simp [isPt, hx, hy, h]
theorem dec_enc {s : ByteArray} (h : (decW s).2 = 0) : isPt (decW s).1.x (decW s).1.y (decW s).1.inf = true ∧ encB (decW s).1 = s := by
  revert h
  unfold decW
  by_cases hs : s.size = 33
  · rw [if_neg (not_not_intro hs)]
    by_cases h0 : sb s 0 = 0
    · rw [if_pos h0]
      by_cases hz : s = bsOf zeros33
      · rw [if_pos hz]
        intro _
        exact ⟨rfl, hz.symm⟩
      · rw [if_neg hz]; intro h; cases h
    · rw [if_neg h0]
      by_cases hb : sb s 0 ≠ 2 ∧ sb s 0 ≠ 3
      · rw [if_pos hb]; intro h; cases h
      · rw [if_neg hb]
        by_cases hP : P ≤ nS (tl s)
        · rw [if_pos hP]; intro h; cases h
        · rw [if_neg hP]
          by_cases hq : fmul (rootOf (cub (nS (tl s)))) (rootOf (cub (nS (tl s)))) ≠ cub (nS (tl s))
          · rw [if_pos hq]; intro h; cases h
          · rw [if_neg hq]
            intro _
            have hq := Classical.not_not.1 hq
            have hn : nS (tl s) < P := by omega
            have hel := evenRoot_lt (cub (nS (tl s)))
            have hep := even_par (cub (nS (tl s)))
            have hes := even_sq (cub (nS (tl s)))
            rw [hq] at hes
            have hc := cub_ne (x := nS (tl s))
            have he0 : evenRoot (cub (nS (tl s))) ≠ 0 := fun h => by
              rw [h] at hes
              exact hc (by rw [← hes]; rfl)
            by_cases h3 : sb s 0 = 3
            · rw [if_pos h3]
              have hp := fsub_par hel he0
              rw [hep] at hp
              have hsq := neg_sq hel
              rw [hes] at hsq
              have hfl := fsub_lt 0 (evenRoot (cub (nS (tl s))))
              have hE := enc_eq hs h3 (by decide)
              generalize fsub 0 (evenRoot (cub (nS (tl s)))) = y at *
              generalize nS (tl s) = x at *
              refine ⟨isPt_aff hn hfl hsq, ?_⟩
              show encB ⟨x, y, false⟩ = s
              rw [encB_aff, hp]
              exact hE
            · have h2 : sb s 0 = 2 := by omega
              rw [if_neg h3]
              have hE := enc_eq hs h2 (by decide)
              generalize evenRoot (cub (nS (tl s))) = y at *
              generalize nS (tl s) = x at *
              refine ⟨isPt_aff hn hel hes, ?_⟩
              show encB ⟨x, y, false⟩ = s
              rw [encB_aff, hep]
              exact hE
  · rw [if_pos hs]; intro h; cases h

theorem enc_dec {p : W9} (hp : isPt p.x p.y p.inf = true) : decW (encB p) = (p, 0) := by
  obtain ⟨x, y, inf⟩ := p
  cases inf
  · have hp' := hp
    simp [isPt] at hp'
    obtain ⟨hx, hy, hc⟩ := hp'
    have hxR := ltR hx
    have hlen : (encB ⟨x, y, false⟩).size = 33 := by unfold encB; rw [bsOf_size, encL_len]
    have hall : ∀ n ∈ (2 + y % 2) :: be x, n < 256 := fun n hn => by
      rcases List.mem_cons.1 hn with rfl | hn
      · omega
      · exact be_lt _ n hn
    have hs0 : sb (encB ⟨x, y, false⟩) 0 = 2 + y % 2 := sb_bsOf hall rfl
    have ht : tl (encB ⟨x, y, false⟩) = bsOf (be x) := bs_ext (by rw [tl_size hlen, bsOf_size, be_len]) (fun k hk => by
      rw [tl_size hlen] at hk
      rw [tl_sb hlen hk]
      have h1 : (be x)[k]? = some (by_ x (31 - k)) := be_get _ hk
      have h2 : ((2 + y % 2) :: be x)[k + 1]? = some (by_ x (31 - k)) := by rw [List.getElem?_cons_succ]; exact h1
      rw [sb_bsOf (be_lt x) h1]
      exact sb_bsOf hall h2)
    have hn : nS (tl (encB ⟨x, y, false⟩)) = x := by rw [ht, nS_be hxR]
    have hy0 : y ≠ 0 := fun h => cub_ne (x := x) (by rw [← hc, h]; rfl)
    have hr := root_of hy hy0
    have hq := root_sq hy
    rw [hc] at hr hq
    unfold decW
    rw [if_neg (not_not_intro hlen), if_neg (by omega), if_neg (by omega), hn, if_neg (by omega), if_neg (not_not_intro hq)]
    have e : (if sb (encB ⟨x, y, false⟩) 0 = 3 then fsub 0 (evenRoot (cub x)) else evenRoot (cub x)) = y := by
      rw [hs0]
      by_cases h1 : y % 2 = 1
      · rw [if_pos (by omega)]
        rw [if_pos h1] at hr
        exact hr.symm
      · rw [if_neg (by omega)]
        rw [if_neg h1] at hr
        exact hr.symm
    rw [e]
  · obtain ⟨e1, e2⟩ := valid_inf hp
    dsimp only at e1 e2
    subst e1 e2
    have e : encB ⟨0, 0, true⟩ = bsOf zeros33 := rfl
    rw [e]
    unfold decW
    rw [if_neg (not_not_intro zeros_size), if_pos (zeros_sb (by decide)), if_pos rfl]

end Go.Proofs.Ytildcmggcbdhpaa
