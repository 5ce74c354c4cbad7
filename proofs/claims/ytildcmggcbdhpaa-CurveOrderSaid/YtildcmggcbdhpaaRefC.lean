/- The document's answers, layer 2: products, joined. No conditions but that numbers are below R. -/
import Derived.Test.YtildcmggcbdhpaaRefB
namespace Go.Proofs.Ytildcmggcbdhpaa
open Go.Ex Go.RowKit Lim

theorem tnext_spec {i x V : Nat} {ys os : List Nat} (hi : i < 4) (hx : x < B) (hy : Dig ys) (hyl : ys.length = 4) (ho : Dig os) (hol : os.length = 8) (hv : val os = V) (hV : V < B ^ (i + 4)) :
    val (tnext i x ys os) = V + B ^ i * (x * val ys) ∧ Dig (tnext i x ys os) ∧ (tnext i x ys os).length = 8 := by
  have hpl : (tpart i os).length = 4 := by unfold tpart; rw [List.length_take, List.length_drop, hol]; omega
  have hpd : Dig (tpart i os) := dig_take (dig_drop ho i) 4
  obtain ⟨e1, e2, e3, e4⟩ := mrow_spec x hx ys (tpart i os) 0 hy hpd (by rw [hyl, hpl]) B_pos
  have h8 : os = os.take i ++ (tpart i os ++ os.drop (i + 4)) := by
    unfold tpart
    rw [← List.drop_drop, List.take_append_drop, List.take_append_drop]
  have hil : (os.take i).length = i := by rw [List.length_take, hol]; omega
  have hv2 : val os = val (os.take i) + B ^ i * (val (tpart i os) + B ^ 4 * val (os.drop (i + 4))) := by
    conv => lhs; rw [h8]
    rw [val_append, val_append, hil, hpl]
  have hz : val (os.drop (i + 4)) = 0 := by
    rcases Nat.eq_zero_or_pos (val (os.drop (i + 4))) with h | h
    · exact h
    · exfalso
      have : B ^ (i + 4) ≤ val os := by
        rw [hv2, Nat.mul_add, ← Nat.mul_assoc, ← Nat.pow_add]
        have := Nat.le_mul_of_pos_right (B ^ (i + 4)) h
        omega
      omega
  have hz5 : val (os.drop (i + 5)) = 0 := by
    have hne : 0 < (os.drop (i + 4)).length := by rw [List.length_drop, hol]; omega
    have e := head_tail hne
    have : (os.drop (i + 4)).tail = os.drop (i + 5) := by rw [List.tail_drop]
    rw [this] at e
    rw [e] at hz
    simp only [val] at hz
    have hB := B_pos
    rcases Nat.eq_zero_or_pos (val (os.drop (i + 5))) with h | h
    · exact h
    · have := Nat.mul_pos hB h
      omega
  refine ⟨?_, ?_, ?_⟩
  · unfold tnext
    rw [val_append, val_append, hil, e3, hyl]
    simp only [val]
    rw [hz5, Nat.mul_zero, Nat.add_zero]
    rw [hyl] at e1
    rw [e1, ← hv, hv2, hz, Nat.mul_zero, Nat.add_zero, Nat.add_zero, Nat.mul_add]
    omega
  · unfold tnext
    exact (dig_take ho i).append (e2.append (Dig.cons e4 (dig_drop ho (i + 5))))
  · unfold tnext
    rw [List.length_append, List.length_append, List.length_cons, hil, e3, hyl, List.length_drop, hol]
    omega

structure TmInv (a b i : Nat) (os : List Nat) : Prop where
  le : i ≤ 4
  dig : Dig os
  len : os.length = 8
  val : Lim.val os = a % B ^ i * b

theorem list8 {os : List Nat} (h : os.length = 8) : ∃ o0 o1 o2 o3 o4 o5 o6 o7, os = [o0, o1, o2, o3, o4, o5, o6, o7] := by
  match os, h with
  | [o0, o1, o2, o3, o4, o5, o6, o7], _ => exact ⟨o0, o1, o2, o3, o4, o5, o6, o7, rfl⟩

noncomputable def tmRec (a b : Nat) : Rec := .code tmC (fun gl => tmS a b gl (I ((0 : Nat) : Int)) (digs 8 0)) (fun gl => tmS a b gl (I 4) (digs 8 (a * b))) (.exit 0)
theorem tmRec_ok {a b : Nat} {w0 : World} (ha : a < R) (hb : b < R) : (tmRec a b).Ok Try.prog w0 := by
  refine Rec.ok_code follows (fun gl (k : Nat × List Nat) => tmS a b gl (I (k.1 : Nat)) k.2) (fun k => TmInv a b k.1 k.2) (fun k => 4 - k.1) (.exit 0) (fun gl => tmS a b gl (I 4) (digs 8 (a * b))) (fun h => by cases h) (0, digs 8 0)
    ⟨by omega, digs_dig 8 0, digs_length 8 0, by rw [val_digs, Nat.pow_zero, Nat.mod_one, Nat.zero_mul, Nat.zero_mod]⟩ (fun gl k hk => ?_)
  obtain ⟨i, os⟩ := k
  obtain ⟨hle, hd, hl, hv⟩ := hk
  dsimp only at *
  obtain ⟨o0, o1, o2, o3, o4, o5, o6, o7, rfl⟩ := list8 hl
  by_cases hi : i = 4
  · subst hi
    have e := digs_val _ hd
    rw [hl, hv, ← R_eq, Nat.mod_eq_of_lt ha] at e
    rw [e]
    exact .stop 8 [] (fun r hr => by cases hr) (tm_stop a b gl o0 o1 o2 o3 o4 o5 o6 o7)
  · have hi4 : i < 4 := by omega
    have hms : a % B ^ (i + 1) = a % B ^ i + B ^ i * (a / B ^ i % B) := Nat.mod_pow_succ
    have hda := dg_eq a i (by omega)
    by_cases hz : dg a i = 0
    · refine .go (i + 1, [o0, o1, o2, o3, o4, o5, o6, o7]) ⟨by omega, hd, hl, ?_⟩ (by dsimp only; omega) 8 [rn 22 (eqX (dg a i)) (.bool true)] (RecsOk.all ⟨rn_ok (by rw [hz]; rfl), trivial⟩) (fun γ => tm_go0 a b gl o0 o1 o2 o3 o4 o5 o6 o7 γ i hi4)
      rw [hv, hms, ← hda, hz, Nat.mul_zero, Nat.add_zero]
    · have hlt : a % B ^ i * b < B ^ (i + 4) := by
        have h1 : a % B ^ i < B ^ i := Nat.mod_lt _ (Nat.pow_pos B_pos)
        rw [Nat.pow_add, ← R_eq]
        exact Nat.mul_lt_mul'' h1 hb
      obtain ⟨s1, s2, s3⟩ := tnext_spec hi4 (dg_lt (w := a) (d := i) (by omega)) (L4_dig b) rfl hd hl hv hlt
      refine .go (i + 1, tnext i (dg a i) (L4 b) [o0, o1, o2, o3, o4, o5, o6, o7]) ⟨by omega, s2, s3, ?_⟩ (by dsimp only; omega) 8 (rn 22 (eqX (dg a i)) (.bool false) :: trow (dg a i) (L4 b) (tpart i [o0, o1, o2, o3, o4, o5, o6, o7]) 0)
        (RecsOk.all ⟨rn_ok (eqX_false hz), trow_ok w0 (dg_lt (w := a) (d := i) (by omega)) (L4 b) _ 0 (L4_dig b) (dig_take (dig_drop hd i) 4) B_pos⟩) (fun γ => tm_go1 a b gl o0 o1 o2 o3 o4 o5 o6 o7 γ i hi4)
      dsimp only
      rw [s1, hms, ← hda, L4_val hb, Nat.add_mul, Nat.mul_assoc]

/-- wardmoteref02.Times -/
theorem f110_ok {a b : Nat} (ha : a < R) (hb : b < R) : Pure 110 [NV a, NV b] (WV (a * b)) :=
  pure_of Try.func110 rfl 8 [NV a, NV b] [tmRec a b] _ (fun _ => ⟨tmRec_ok ha hb, trivial⟩) (fun γ => by kernel_rfl)

end Go.Proofs.Ytildcmggcbdhpaa
