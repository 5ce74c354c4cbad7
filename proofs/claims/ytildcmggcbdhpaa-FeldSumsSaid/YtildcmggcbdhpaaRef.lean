/- The document's answers, layer 2: numbers compared, added, taken away. No conditions but that numbers are below R. The document's answers, layer 2: products. No conditions but that numbers are below R. The document's answers, layer 2: products, joined. No conditions but that numbers are below R. The document's answers, layer 2: what is above is folded back. No conditions but that numbers are below R. The document's answers, layer 2: remainders, products in the field, powers, inverses. No conditions but that numbers are below the modulus. The document's answers, layer 2: powers, inverses. No conditions but that numbers are below the modulus. The document's answers, layer 3: points and their sums. No conditions but that numbers are below the modulus. -/
import Derived.Test.YtildcmggcbdhpaaCurveA
namespace Go.Proofs.Ytildcmggcbdhpaa
open Go.Ex Go.RowKit Lim

def FV (m c : Nat) : Value := .agg #[U (l0 m), U (l1 m), U (l2 m), U (l3 m), U (l0 c), U (l1 c), U (l2 c), U (l3 c)]
def CP : Nat := R - P
def CQ : Nat := R - Q
/-- wardmoteref02.Base -/
theorem f65_ok : Pure 65 [] (FV P CP) := pure_of Try.func65 rfl 8 [] [] _ (fun _ => trivial) (fun γ => by kernel_rfl)
/-- wardmoteref02.Scalars -/
theorem f45_ok : Pure 45 [] (FV Q CQ) := pure_of Try.func45 rfl 8 [] [] _ (fun _ => trivial) (fun γ => by kernel_rfl)

def neX (x y : Nat) : Value := .bool (((x : Nat) : Int) != (y : Nat))
theorem neX_eq (x y : Nat) : neX x y = .bool (decide (x ≠ y)) := by
  unfold neX
  congr 1
  rw [Bool.eq_iff_iff]
  simp
  omega
def ltN (x y : Nat) : Value := .bool (decide (((x : Nat) : Int) < (y : Nat)))
theorem ltN_eq (x y : Nat) : ltN x y = .bool (decide (x < y)) := by
  unfold ltN
  congr 1
  rw [Bool.eq_iff_iff]
  simp

theorem four {a : Nat} (h : a < R) : a = l0 a + B * (l1 a + B * (l2 a + B * (l3 a + B * 0))) := (L4_val h).symm

/-- wardmoteref02.Less -/
theorem f94_ok {a b : Nat} (ha : a < R) (hb : b < R) : Pure 94 [NV a, NV b] (.bool (decide (a < b))) := by
  have ea := four ha
  have eb := four hb
  have a0 := l0_lt a; have a1 := l1_lt a; have a2 := l2_lt a; have a3 := l3_lt a
  have b0 := l0_lt b; have b1 := l1_lt b; have b2 := l2_lt b; have b3 := l3_lt b
  have hB : B = 18446744073709551616 := rfl
  rw [hB] at ea eb a0 a1 a2 a3 b0 b1 b2 b3
  by_cases h3 : l3 a = l3 b
  · by_cases h2 : l2 a = l2 b
    · by_cases h1 : l1 a = l1 b
      · by_cases h0 : l0 a = l0 b
        · rw [decide_eq_false (by omega)]
          exact pure_of Try.func94 rfl 8 _ [rn 16 (neX (l3 a) (l3 b)) (.bool false), rn 16 (neX (l2 a) (l2 b)) (.bool false), rn 16 (neX (l1 a) (l1 b)) (.bool false), rn 16 (neX (l0 a) (l0 b)) (.bool false)] _
            (fun _ => ⟨rn_ok (by rw [neX_eq]; simp [h3]), rn_ok (by rw [neX_eq]; simp [h2]), rn_ok (by rw [neX_eq]; simp [h1]), rn_ok (by rw [neX_eq]; simp [h0]), trivial⟩) (fun γ => by kernel_rfl)
        · have e : decide (a < b) = decide (l0 a < l0 b) := by rw [Bool.eq_iff_iff]; simp only [decide_eq_true_eq]; omega
          rw [e]
          exact pure_of Try.func94 rfl 8 _ [rn 16 (neX (l3 a) (l3 b)) (.bool false), rn 16 (neX (l2 a) (l2 b)) (.bool false), rn 16 (neX (l1 a) (l1 b)) (.bool false), rn 16 (neX (l0 a) (l0 b)) (.bool true), rn 23 (ltN (l0 a) (l0 b)) (.bool (decide (l0 a < l0 b)))] _
            (fun _ => ⟨rn_ok (by rw [neX_eq]; simp [h3]), rn_ok (by rw [neX_eq]; simp [h2]), rn_ok (by rw [neX_eq]; simp [h1]), rn_ok (by rw [neX_eq]; simp [h0]), rn_ok (ltN_eq _ _), trivial⟩) (fun γ => by kernel_rfl)
      · have e : decide (a < b) = decide (l1 a < l1 b) := by rw [Bool.eq_iff_iff]; simp only [decide_eq_true_eq]; omega
        rw [e]
        exact pure_of Try.func94 rfl 8 _ [rn 16 (neX (l3 a) (l3 b)) (.bool false), rn 16 (neX (l2 a) (l2 b)) (.bool false), rn 16 (neX (l1 a) (l1 b)) (.bool true), rn 23 (ltN (l1 a) (l1 b)) (.bool (decide (l1 a < l1 b)))] _
          (fun _ => ⟨rn_ok (by rw [neX_eq]; simp [h3]), rn_ok (by rw [neX_eq]; simp [h2]), rn_ok (by rw [neX_eq]; simp [h1]), rn_ok (ltN_eq _ _), trivial⟩) (fun γ => by kernel_rfl)
    · have e : decide (a < b) = decide (l2 a < l2 b) := by rw [Bool.eq_iff_iff]; simp only [decide_eq_true_eq]; omega
      rw [e]
      exact pure_of Try.func94 rfl 8 _ [rn 16 (neX (l3 a) (l3 b)) (.bool false), rn 16 (neX (l2 a) (l2 b)) (.bool true), rn 23 (ltN (l2 a) (l2 b)) (.bool (decide (l2 a < l2 b)))] _
        (fun _ => ⟨rn_ok (by rw [neX_eq]; simp [h3]), rn_ok (by rw [neX_eq]; simp [h2]), rn_ok (ltN_eq _ _), trivial⟩) (fun γ => by kernel_rfl)
  · have e : decide (a < b) = decide (l3 a < l3 b) := by rw [Bool.eq_iff_iff]; simp only [decide_eq_true_eq]; omega
    rw [e]
    exact pure_of Try.func94 rfl 8 _ [rn 16 (neX (l3 a) (l3 b)) (.bool true), rn 23 (ltN (l3 a) (l3 b)) (.bool (decide (l3 a < l3 b)))] _
      (fun _ => ⟨rn_ok (by rw [neX_eq]; simp [h3]), rn_ok (ltN_eq _ _), trivial⟩) (fun γ => by kernel_rfl)

/-- (Field).Has -/
theorem f46_ok {m c a : Nat} (hm : m < R) (ha : a < R) : Pure 46 [FV m c, NV a] (.bool (decide (a < m))) :=
  pure_of Try.func46 rfl 8 _ [pc 94 [NV a, NV m] (.bool (decide (a < m)))] _ (fun _ => ⟨pc_ok (f94_ok ha hm), trivial⟩) (fun γ => by kernel_rfl)

/-- wardmoteref02.Plus -/
def c1X (c : Nat) : Value := .bool (((c : Nat) : Int) == 1)
theorem f112_raw (a b : Nat) (q : Bool) (hq : decide ((addc (L4 a) (L4 b) 0).2 = 1) = q) : Pure 112 [NV a, NV b] (.tuple #[aggU (addc (L4 a) (L4 b) 0).1, .bool q]) :=
  pure_of Try.func112 rfl 8 _ (addRecs 23 (L4 a) (L4 b) 0 ++ [rn 32 (c1X (addc (L4 a) (L4 b) 0).2) (.bool q)]) _ (fun w => (addRecs_ok 23 w _ _ 0 (L4_dig a) (L4_dig b) (by omega)).append ⟨rn_ok (by
    unfold c1X
    rw [← hq]
    congr 1
    rw [Bool.eq_iff_iff]
    simp
    omega), trivial⟩) (fun γ => by kernel_rfl)
theorem f112_ok {a b : Nat} (ha : a < R) (hb : b < R) : Pure 112 [NV a, NV b] (.tuple #[NV ((a + b) % R), .bool (decide (R ≤ a + b))]) := by
  have h := f112_raw a b (decide (R ≤ a + b)) (by
    rw [(add_val ha hb).2, Bool.eq_iff_iff]
    simp only [decide_eq_true_eq]
    unfold R at *
    omega)
  rw [(add_val ha hb).1] at h
  exact h
/-- wardmoteref02.Minus -/
theorem f113_ok {a b : Nat} (ha : a < R) (hb : b < R) : Pure 113 [NV a, NV b] (NV ((a + R - b) % R)) := by
  rw [← (sub_val ha hb).1]
  exact pure_of Try.func113 rfl 8 _ (subRecs 22 (L4 a) (L4 b) 0) _ (fun w => subRecs_ok 22 w _ _ 0 (by omega)) (fun γ => by kernel_rfl)

/-- wardmoteref02.Zero -/
theorem f64_ok {a : Nat} (ha : a < R) : Pure 64 [NV a] (.bool (decide (a = 0))) := by
  have ea := four ha
  have hB : B = 18446744073709551616 := rfl
  rw [hB] at ea
  by_cases h0 : l0 a = 0
  · by_cases h1 : l1 a = 0
    · by_cases h2 : l2 a = 0
      · by_cases h3 : l3 a = 0
        · rw [decide_eq_true (by omega)]
          exact pure_of Try.func64 rfl 8 _ [rn 5 (eqX (l0 a)) (.bool true), rn 9 (eqX (l1 a)) (.bool true), rn 14 (eqX (l2 a)) (.bool true), rn 19 (eqX (l3 a)) (.bool true)] _
            (fun _ => ⟨rn_ok (by rw [h0]; rfl), rn_ok (by rw [h1]; rfl), rn_ok (by rw [h2]; rfl), rn_ok (by rw [h3]; rfl), trivial⟩) (fun γ => by kernel_rfl)
        · rw [decide_eq_false (by intro h; subst h; exact h3 rfl)]
          exact pure_of Try.func64 rfl 8 _ [rn 5 (eqX (l0 a)) (.bool true), rn 9 (eqX (l1 a)) (.bool true), rn 14 (eqX (l2 a)) (.bool true), rn 19 (eqX (l3 a)) (.bool false)] _
            (fun _ => ⟨rn_ok (by rw [h0]; rfl), rn_ok (by rw [h1]; rfl), rn_ok (by rw [h2]; rfl), rn_ok (eqX_false h3), trivial⟩) (fun γ => by kernel_rfl)
      · rw [decide_eq_false (by intro h; subst h; exact h2 rfl)]
        exact pure_of Try.func64 rfl 8 _ [rn 5 (eqX (l0 a)) (.bool true), rn 9 (eqX (l1 a)) (.bool true), rn 14 (eqX (l2 a)) (.bool false)] _
          (fun _ => ⟨rn_ok (by rw [h0]; rfl), rn_ok (by rw [h1]; rfl), rn_ok (eqX_false h2), trivial⟩) (fun γ => by kernel_rfl)
    · rw [decide_eq_false (by intro h; subst h; exact h1 rfl)]
      exact pure_of Try.func64 rfl 8 _ [rn 5 (eqX (l0 a)) (.bool true), rn 9 (eqX (l1 a)) (.bool false)] _
        (fun _ => ⟨rn_ok (by rw [h0]; rfl), rn_ok (eqX_false h1), trivial⟩) (fun γ => by kernel_rfl)
  · rw [decide_eq_false (by intro h; subst h; exact h0 rfl)]
    exact pure_of Try.func64 rfl 8 _ [rn 5 (eqX (l0 a)) (.bool false)] _ (fun _ => ⟨rn_ok (eqX_false h0), trivial⟩) (fun γ => by kernel_rfl)

/-- (Field).Add -/
theorem f109_ok {m c a b : Nat} (hm : m < R) (ha : a < m) (hb : b < m) : Pure 109 [FV m c, NV a, NV b] (NV ((a + b) % m)) := by
  have hR : R = 115792089237316195423570985008687907853269984665640564039457584007913129639936 := rfl
  have h1 := f112_ok (a := a) (b := b) (by omega) (by omega)
  by_cases ho : R ≤ a + b
  · rw [decide_eq_true ho] at h1
    have h3 := f113_ok (a := (a + b) % R) (b := m) (Nat.mod_lt _ (by decide)) hm
    have e : ((a + b) % R + R - m) % R = (a + b) % m := by
      rw [Nat.mod_eq_sub_mod ho, Nat.mod_eq_of_lt (a := a + b - R) (by omega), Nat.mod_eq_sub_mod (a := a + b) (b := m) (by omega), Nat.mod_eq_of_lt (a := a + b - m) (by omega), Nat.mod_eq_of_lt (by omega)]
      omega
    rw [e] at h3
    exact pure_of Try.func109 rfl 8 _ [pc 112 [NV a, NV b] (.tuple #[NV ((a + b) % R), .bool true]), pc 113 [NV ((a + b) % R), NV m] (NV ((a + b) % m))] _ (fun _ => ⟨pc_ok h1, pc_ok h3, trivial⟩) (fun γ => by kernel_rfl)
  · rw [decide_eq_false ho] at h1
    have h2 := f94_ok (a := (a + b) % R) (b := m) (Nat.mod_lt _ (by decide)) hm
    by_cases hl : a + b < m
    · rw [Nat.mod_eq_of_lt (a := a + b) (b := R) (by omega)] at h1 h2
      rw [decide_eq_true hl] at h2
      rw [Nat.mod_eq_of_lt hl]
      exact pure_of Try.func109 rfl 8 _ [pc 112 [NV a, NV b] (.tuple #[NV (a + b), .bool false]), pc 94 [NV (a + b), NV m] (.bool true)] _ (fun _ => ⟨pc_ok h1, pc_ok h2, trivial⟩) (fun γ => by kernel_rfl)
    · rw [Nat.mod_eq_of_lt (a := a + b) (b := R) (by omega)] at h1 h2
      rw [decide_eq_false hl] at h2
      have h3 := f113_ok (a := a + b) (b := m) (by omega) hm
      have e : (a + b + R - m) % R = (a + b) % m := by
        rw [Nat.mod_eq_sub_mod (a := a + b) (b := m) (by omega), Nat.mod_eq_of_lt (a := a + b - m) (by omega), show a + b + R - m = (a + b - m) + R by omega, Nat.add_mod_right, Nat.mod_eq_of_lt (by omega)]
      rw [e] at h3
      exact pure_of Try.func109 rfl 8 _ [pc 112 [NV a, NV b] (.tuple #[NV (a + b), .bool false]), pc 94 [NV (a + b), NV m] (.bool false), pc 113 [NV (a + b), NV m] (NV ((a + b) % m))] _ (fun _ => ⟨pc_ok h1, pc_ok h2, pc_ok h3, trivial⟩) (fun γ => by kernel_rfl)

/-- (Field).Sub -/
theorem f70_ok {m c a b : Nat} (hm : m < R) (ha : a < m) (hb : b < m) : Pure 70 [FV m c, NV a, NV b] (NV ((a + m - b) % m)) := by
  have hR : R = 115792089237316195423570985008687907853269984665640564039457584007913129639936 := rfl
  have h1 := f94_ok (a := a) (b := b) (by omega) (by omega)
  by_cases hl : a < b
  · rw [decide_eq_true hl] at h1
    have h2 := f112_ok (a := a) (b := m) (by omega) hm
    have h3 := f113_ok (a := (a + m) % R) (b := b) (Nat.mod_lt _ (by decide)) (by omega)
    have e : ((a + m) % R + R - b) % R = (a + m - b) % m := by
      rw [Nat.mod_eq_of_lt (a := a + m - b) (b := m) (by omega)]
      by_cases h : a + m < R
      · rw [Nat.mod_eq_of_lt h, show a + m + R - b = (a + m - b) + R by omega, Nat.add_mod_right, Nat.mod_eq_of_lt (by omega)]
      · rw [Nat.mod_eq_sub_mod (a := a + m) (by omega), Nat.mod_eq_of_lt (a := a + m - R) (by omega), show a + m - R + R - b = a + m - b by omega, Nat.mod_eq_of_lt (by omega)]
    rw [e] at h3
    exact pure_of Try.func70 rfl 8 _ [pc 94 [NV a, NV b] (.bool true), pc 112 [NV a, NV m] (.tuple #[NV ((a + m) % R), .bool (decide (R ≤ a + m))]), pc 113 [NV ((a + m) % R), NV b] (NV ((a + m - b) % m))] _ (fun _ => ⟨pc_ok h1, pc_ok h2, pc_ok h3, trivial⟩) (fun γ => by kernel_rfl)
  · rw [decide_eq_false hl] at h1
    have h3 := f113_ok (a := a) (b := b) (by omega) (by omega)
    have e : (a + R - b) % R = (a + m - b) % m := by
      rw [show a + R - b = (a - b) + R by omega, Nat.add_mod_right, Nat.mod_eq_of_lt (by omega), show a + m - b = (a - b) + m by omega, Nat.add_mod_right, Nat.mod_eq_of_lt (by omega)]
    rw [e] at h3
    exact pure_of Try.func70 rfl 8 _ [pc 94 [NV a, NV b] (.bool false), pc 113 [NV a, NV b] (NV ((a + m - b) % m))] _ (fun _ => ⟨pc_ok h1, pc_ok h3, trivial⟩) (fun γ => by kernel_rfl)

end Go.Proofs.Ytildcmggcbdhpaa

namespace Go.Proofs.Ytildcmggcbdhpaa
open Go.Ex Go.RowKit Lim

def tmac (x y o c : Nat) : List Rec :=
  [pc 130 [U x, U y] (.tuple #[U (mhi x y), U (mlo x y)]), addF 44 (mlo x y) o 0, addF 50 (a1 x y o) c 0, rn 60 (.int .u64 (IntKind.u64.wrap ((mhi x y : Nat) + (c1 x y o : Nat)))) (U (h1 x y o)),
    rn 62 (.int .u64 (IntKind.u64.wrap ((h1 x y o : Nat) + (c2 x y o c : Nat)))) (U (h2 x y o c))]
theorem tmac_ok {x y o c : Nat} (w : World) (hx : x < B) (hy : y < B) (ho : o < B) (hc : c < B) : RecsOk w (tmac x y o c) := by
  obtain ⟨_, _, m3, m4, _, _⟩ := mac x y o c hx hy ho hc
  refine ⟨pc_ok (f130_ok hx hy), addF_ok (by omega), addF_ok (by omega), rn_ok ?_, rn_ok ?_, trivial⟩
  · rw [← Int.natCast_add]
    show Value.int .u64 (IntKind.u64.wrap ((h1 x y o : Nat) : Int)) = _
    rw [wrap_in m4]
  · rw [← Int.natCast_add]
    show Value.int .u64 (IntKind.u64.wrap ((h2 x y o c : Nat) : Int)) = _
    rw [wrap_in m3]
def trow (x : Nat) : List Nat → List Nat → Nat → List Rec
  | y :: ys, o :: os, c => tmac x y o c ++ trow x ys os (h2 x y o c)
  | _, _, _ => []
theorem trow_ok {x : Nat} (w : World) (hx : x < B) : ∀ (ys os : List Nat) (c : Nat), Dig ys → Dig os → c < B → RecsOk w (trow x ys os c)
  | y :: ys, o :: os, c, hy, ho, hc =>
    (tmac_ok w hx hy.head ho.head hc).append (trow_ok w hx ys os _ hy.tail ho.tail (mac x y o c hx hy.head ho.head hc).2.2.1)
  | [], [], _, _, _, _ => trivial
  | [], _ :: _, _, _, _, _ => trivial
  | _ :: _, [], _, _, _, _ => trivial

def U8 (g : Nat) (o0 o1 o2 o3 o4 o5 o6 o7 : Nat) (own : Bool) : Ent := ⟨g, [U o0, U o1, U o2, U o3, U o4, U o5, U o6, U o7], [], 116, own⟩
noncomputable def tmC : Code := (loopsOf (Fx Try.f110)).getD 0 .skip
noncomputable def tmS (a b : Nat) (gl : List Nat) (v : Value) (os : List Nat) : St :=
  ⟨frOf Try.f110.ntmps [(2, PT (gl.getD 0 0)), (3, PT (gl.getD 1 0)), (4, PT (gl.getD 2 0)), (5, PT (gl.getD 3 0)), (6, v)], tgOf Try.f110.ntmps [(2, .at_ 0), (3, .at_ 1), (4, .at_ 2), (5, .at_ 3)],
    [numE (gl.getD 0 0) a true, numE (gl.getD 1 0) b true, wideE (gl.getD 2 0) 0 true, ⟨gl.getD 3 0, os.map fun n => U n, [], 116, true⟩]⟩

/-- the words of a round -/
def tpart (i : Nat) (os : List Nat) : List Nat := (os.drop i).take 4
def tnext (i x : Nat) (ys os : List Nat) : List Nat := os.take i ++ ((mrow x ys (tpart i os) 0).1 ++ ((mrow x ys (tpart i os) 0).2 :: os.drop (i + 5)))

theorem tm_go0 (a b : Nat) (gl : List Nat) (o0 o1 o2 o3 o4 o5 o6 o7 : Nat) (γ : Nat → Nat) : ∀ i, i < 4 →
    endL (tmS a b gl (I ((i + 1 : Nat) : Int)) [o0, o1, o2, o3, o4, o5, o6, o7]) (exec Try.prog tmC ⟨tmS a b gl (I (i : Nat)) [o0, o1, o2, o3, o4, o5, o6, o7], (List.range 8).map γ, [rn 22 (eqX (dg a i)) (.bool true)], []⟩) =
      endR .normal (tmS a b gl (I ((i + 1 : Nat) : Int)) [o0, o1, o2, o3, o4, o5, o6, o7]) (exec Try.prog tmC ⟨tmS a b gl (I (i : Nat)) [o0, o1, o2, o3, o4, o5, o6, o7], (List.range 8).map γ, [rn 22 (eqX (dg a i)) (.bool true)], []⟩)
  | 0, _ => by kernel_rfl
  | 1, _ => by kernel_rfl
  | 2, _ => by kernel_rfl
  | 3, _ => by kernel_rfl
theorem tm_go1 (a b : Nat) (gl : List Nat) (o0 o1 o2 o3 o4 o5 o6 o7 : Nat) (γ : Nat → Nat) : ∀ i, i < 4 →
    endL (tmS a b gl (I ((i + 1 : Nat) : Int)) (tnext i (dg a i) (L4 b) [o0, o1, o2, o3, o4, o5, o6, o7])) (exec Try.prog tmC ⟨tmS a b gl (I (i : Nat)) [o0, o1, o2, o3, o4, o5, o6, o7], (List.range 8).map γ, rn 22 (eqX (dg a i)) (.bool false) :: trow (dg a i) (L4 b) (tpart i [o0, o1, o2, o3, o4, o5, o6, o7]) 0, []⟩) =
      endR .normal (tmS a b gl (I ((i + 1 : Nat) : Int)) (tnext i (dg a i) (L4 b) [o0, o1, o2, o3, o4, o5, o6, o7])) (exec Try.prog tmC ⟨tmS a b gl (I (i : Nat)) [o0, o1, o2, o3, o4, o5, o6, o7], (List.range 8).map γ, rn 22 (eqX (dg a i)) (.bool false) :: trow (dg a i) (L4 b) (tpart i [o0, o1, o2, o3, o4, o5, o6, o7]) 0, []⟩)
  | 0, _ => by kernel_rfl
  | 1, _ => by kernel_rfl
  | 2, _ => by kernel_rfl
  | 3, _ => by kernel_rfl
theorem tm_stop (a b : Nat) (gl : List Nat) (o0 o1 o2 o3 o4 o5 o6 o7 : Nat) (γ : Nat → Nat) :
    endL (tmS a b gl (I 4) [o0, o1, o2, o3, o4, o5, o6, o7]) (exec Try.prog tmC ⟨tmS a b gl (I 4) [o0, o1, o2, o3, o4, o5, o6, o7], (List.range 8).map γ, [], []⟩) =
      endR (.exit 0) (tmS a b gl (I 4) [o0, o1, o2, o3, o4, o5, o6, o7]) (exec Try.prog tmC ⟨tmS a b gl (I 4) [o0, o1, o2, o3, o4, o5, o6, o7], (List.range 8).map γ, [], []⟩) := by kernel_rfl

end Go.Proofs.Ytildcmggcbdhpaa

namespace Go.Proofs.Ytildcmggcbdhpaa
open Go.Ex Go.RowKit Lim

theorem tnext_spec {i x V : Nat} {ys os : List Nat} (hi : i < 4) (hx : x < B) (hy : Dig ys) (hyl : ys.length = 4) (ho : Dig os) (hol : os.length = 8) (hv : val os = V) (hV : V < B ^ (i + 4)) :
    val (tnext i x ys os) = V + B ^ i * (x * val ys) ∧ Dig (tnext i x ys os) ∧ (tnext i x ys os).length = 8 := by
  have hpl : (tpart i os).length = 4 := by unfold tpart; rw [List.length_take, List.length_drop, hol]; omega
  have hpd : Dig (tpart i os) := dig_take (dig_drop ho i) 4
  obtain ⟨e1, e2, e3, e4⟩ := mrow_spec x hx ys (tpart i os) 0 hy hpd (by rw [hyl, hpl]) B_pos
  have h8 : os = os.take i ++ (tpart i os ++ os.drop (i + 4)) := by
    unfold tpart
    rw [← List.drop_drop, List.take_append_drop, List.take_append_drop]
  have hil : (os.take i).length = i := by rw [List.length_take, hol]; omega
  have hv2 : val os = val (os.take i) + B ^ i * (val (tpart i os) + B ^ 4 * val (os.drop (i + 4))) := by
    conv => lhs; rw [h8]
    rw [val_append, val_append, hil, hpl]
  have hz : val (os.drop (i + 4)) = 0 := by
    rcases Nat.eq_zero_or_pos (val (os.drop (i + 4))) with h | h
    · exact h
    · exfalso
      have : B ^ (i + 4) ≤ val os := by
        rw [hv2, Nat.mul_add, ← Nat.mul_assoc, ← Nat.pow_add]
        have := Nat.le_mul_of_pos_right (B ^ (i + 4)) h
        omega
      omega
  have hz5 : val (os.drop (i + 5)) = 0 := by
    have hne : 0 < (os.drop (i + 4)).length := by rw [List.length_drop, hol]; omega
    have e := head_tail hne
    have : (os.drop (i + 4)).tail = os.drop (i + 5) := by rw [List.tail_drop]
    rw [this] at e
    rw [e] at hz
    simp only [val] at hz
    have hB := B_pos
    rcases Nat.eq_zero_or_pos (val (os.drop (i + 5))) with h | h
    · exact h
    · have := Nat.mul_pos hB h
      omega
  refine ⟨?_, ?_, ?_⟩
  · unfold tnext
    rw [val_append, val_append, hil, e3, hyl]
    simp only [val]
    rw [hz5, Nat.mul_zero, Nat.add_zero]
    rw [hyl] at e1
    rw [e1, ← hv, hv2, hz, Nat.mul_zero, Nat.add_zero, Nat.add_zero, Nat.mul_add]
    omega
  · unfold tnext
    exact (dig_take ho i).append (e2.append (Dig.cons e4 (dig_drop ho (i + 5))))
  · unfold tnext
    rw [List.length_append, List.length_append, List.length_cons, hil, e3, hyl, List.length_drop, hol]
    omega

structure TmInv (a b i : Nat) (os : List Nat) : Prop where
  le : i ≤ 4
  dig : Dig os
  len : os.length = 8
  val : Lim.val os = a % B ^ i * b

theorem list8 {os : List Nat} (h : os.length = 8) : ∃ o0 o1 o2 o3 o4 o5 o6 o7, os = [o0, o1, o2, o3, o4, o5, o6, o7] := by
  match os, h with
  | [o0, o1, o2, o3, o4, o5, o6, o7], _ => exact ⟨o0, o1, o2, o3, o4, o5, o6, o7, rfl⟩

noncomputable def tmRec (a b : Nat) : Rec := .code tmC (fun gl => tmS a b gl (I ((0 : Nat) : Int)) (digs 8 0)) (fun gl => tmS a b gl (I 4) (digs 8 (a * b))) (.exit 0)
theorem tmRec_ok {a b : Nat} {w0 : World} (ha : a < R) (hb : b < R) : (tmRec a b).Ok Try.prog w0 := by
  refine Rec.ok_code follows (fun gl (k : Nat × List Nat) => tmS a b gl (I (k.1 : Nat)) k.2) (fun k => TmInv a b k.1 k.2) (fun k => 4 - k.1) (.exit 0) (fun gl => tmS a b gl (I 4) (digs 8 (a * b))) (fun h => by cases h) (0, digs 8 0)
    ⟨by omega, digs_dig 8 0, digs_length 8 0, by rw [val_digs, Nat.pow_zero, Nat.mod_one, Nat.zero_mul, Nat.zero_mod]⟩ (fun gl k hk => ?_)
  obtain ⟨i, os⟩ := k
  obtain ⟨hle, hd, hl, hv⟩ := hk
  dsimp only at *
  obtain ⟨o0, o1, o2, o3, o4, o5, o6, o7, rfl⟩ := list8 hl
  by_cases hi : i = 4
  · subst hi
    have e := digs_val _ hd
    rw [hl, hv, ← R_eq, Nat.mod_eq_of_lt ha] at e
    rw [e]
    exact .stop 8 [] (fun r hr => by cases hr) (tm_stop a b gl o0 o1 o2 o3 o4 o5 o6 o7)
  · have hi4 : i < 4 := by omega
    have hms : a % B ^ (i + 1) = a % B ^ i + B ^ i * (a / B ^ i % B) := Nat.mod_pow_succ
    have hda := dg_eq a i (by omega)
    by_cases hz : dg a i = 0
    · refine .go (i + 1, [o0, o1, o2, o3, o4, o5, o6, o7]) ⟨by omega, hd, hl, ?_⟩ (by dsimp only; omega) 8 [rn 22 (eqX (dg a i)) (.bool true)] (RecsOk.all ⟨rn_ok (by rw [hz]; rfl), trivial⟩) (fun γ => tm_go0 a b gl o0 o1 o2 o3 o4 o5 o6 o7 γ i hi4)
      rw [hv, hms, ← hda, hz, Nat.mul_zero, Nat.add_zero]
    · have hlt : a % B ^ i * b < B ^ (i + 4) := by
        have h1 : a % B ^ i < B ^ i := Nat.mod_lt _ (Nat.pow_pos B_pos)
        rw [Nat.pow_add, ← R_eq]
        exact Nat.mul_lt_mul'' h1 hb
      obtain ⟨s1, s2, s3⟩ := tnext_spec hi4 (dg_lt (w := a) (d := i) (by omega)) (L4_dig b) rfl hd hl hv hlt
      refine .go (i + 1, tnext i (dg a i) (L4 b) [o0, o1, o2, o3, o4, o5, o6, o7]) ⟨by omega, s2, s3, ?_⟩ (by dsimp only; omega) 8 (rn 22 (eqX (dg a i)) (.bool false) :: trow (dg a i) (L4 b) (tpart i [o0, o1, o2, o3, o4, o5, o6, o7]) 0)
        (RecsOk.all ⟨rn_ok (eqX_false hz), trow_ok w0 (dg_lt (w := a) (d := i) (by omega)) (L4 b) _ 0 (L4_dig b) (dig_take (dig_drop hd i) 4) B_pos⟩) (fun γ => tm_go1 a b gl o0 o1 o2 o3 o4 o5 o6 o7 γ i hi4)
      dsimp only
      rw [s1, hms, ← hda, L4_val hb, Nat.add_mul, Nat.mul_assoc]

/-- wardmoteref02.Times -/
theorem f110_ok {a b : Nat} (ha : a < R) (hb : b < R) : Pure 110 [NV a, NV b] (WV (a * b)) :=
  pure_of Try.func110 rfl 8 [NV a, NV b] [tmRec a b] _ (fun _ => ⟨tmRec_ok ha hb, trivial⟩) (fun γ => by kernel_rfl)

end Go.Proofs.Ytildcmggcbdhpaa

namespace Go.Proofs.Ytildcmggcbdhpaa
open Go.Ex Go.RowKit Lim

def FE (g m c : Nat) (own : Bool) : Ent := ⟨g, [U (l0 m), U (l1 m), U (l2 m), U (l3 m), U (l0 c), U (l1 c), U (l2 c), U (l3 c)], [], 74, own⟩
def hiE (g n : Nat) (own : Bool) : Ent := ⟨g, [U (l4 n), U (l5 n), U (l6 n), U (l7 n)], [], 24, own⟩
def hiV (n : Nat) : Value := .agg #[U (l4 n), U (l5 n), U (l6 n), U (l7 n)]

theorem NV_mod (n : Nat) : NV (n % R) = NV n := by
  have h := digs_val [l0 n, l1 n, l2 n, l3 n] (dig4 n)
  rw [val4, ← R_eq, show [l0 n, l1 n, l2 n, l3 n].length = 4 from rfl, digs4] at h
  simp only [List.cons.injEq, and_true] at h
  obtain ⟨h0, h1, h2, h3⟩ := h
  unfold NV
  rw [h0, h1, h2, h3]
theorem hiV_eq (n : Nat) : hiV n = NV (n / R) := by
  have e : n / R = n / B / B / B / B := by rw [Nat.div_div_eq_div_mul, Nat.div_div_eq_div_mul, Nat.div_div_eq_div_mul]; rfl
  unfold hiV NV
  rw [e]
  rfl

noncomputable def rdC : Code := (loopsOf (Fx Try.f76)).getD 0 .skip
noncomputable def rdS (m c w : Nat) (gl : List Nat) (v : Value) (n h : Nat) : St :=
  ⟨frOf Try.f76.ntmps [(2, PT (gl.getD 0 0)), (3, PT (gl.getD 1 0)), (4, PT (gl.getD 2 0)), (5, PT (gl.getD 3 0)), (6, PT (gl.getD 4 0)), (7, v)],
    tgOf Try.f76.ntmps [(2, .at_ 0), (3, .at_ 1), (4, .at_ 2), (5, .at_ 3), (6, .at_ 4)],
    [FE (gl.getD 0 0) m c true, wideE (gl.getD 1 0) w true, numE (gl.getD 2 0) 0 true, numE (gl.getD 3 0) n true, hiE (gl.getD 4 0) h true]⟩
noncomputable def rdP (m c w : Nat) (gl : List Nat) (n : Nat) : St :=
  ⟨frOf Try.f76.ntmps [(2, PT (gl.getD 0 0)), (3, PT (gl.getD 1 0)), (4, PT (gl.getD 2 0)), (5, PT (gl.getD 3 0))],
    tgOf Try.f76.ntmps [(2, .at_ 0), (3, .at_ 1), (4, .at_ 2), (5, .at_ 3)],
    [FE (gl.getD 0 0) m c true, wideE (gl.getD 1 0) w true, numE (gl.getD 2 0) 0 true, numE (gl.getD 3 0) n true]⟩

def lt8X (i : Nat) : Value := .bool (decide ((i : Int) < 8))
def incX (i : Nat) : Value := .int .i64 (IntKind.i64.wrap ((i : Int) + 1))
theorem lt8X_eq {i : Nat} (h : i < 8) : lt8X i = .bool true := by unfold lt8X; rw [decide_eq_true (by omega)]
theorem incX_eq {i : Nat} (h : i < 1000) : incX i = I ((i + 1 : Nat) : Int) := by
  unfold incX
  rw [show ((i : Int) + 1) = ((i + 1 : Nat) : Int) from rfl, wrap64 (by omega)]

def nzRecs (h : Nat) : Nat → List Rec
  | 0 => [rn 37 (eqX (l4 h)) (.bool false)]
  | 1 => [rn 37 (eqX (l4 h)) (.bool true), rn 41 (eqX (l5 h)) (.bool false)]
  | 2 => [rn 37 (eqX (l4 h)) (.bool true), rn 41 (eqX (l5 h)) (.bool true), rn 46 (eqX (l6 h)) (.bool false)]
  | _ => [rn 37 (eqX (l4 h)) (.bool true), rn 41 (eqX (l5 h)) (.bool true), rn 46 (eqX (l6 h)) (.bool true), rn 51 (eqX (l7 h)) (.bool false)]
theorem nzRecs_ok {h : Nat} {w : World} (hh : h < R * R) (h0 : h / R ≠ 0) : ∃ j, j < 4 ∧ RecsOk w (nzRecs h j) := by
  have key : ¬ (l4 h = 0 ∧ l5 h = 0 ∧ l6 h = 0 ∧ l7 h = 0) := by
    rintro ⟨e4, e5, e6, e7⟩
    have e := congrArg (fun v : Value => v) (hiV_eq h)
    have hv := L4_val (n := h / R) (Nat.div_lt_of_lt_mul hh)
    have e' : h / R = h / B / B / B / B := by rw [Nat.div_div_eq_div_mul, Nat.div_div_eq_div_mul, Nat.div_div_eq_div_mul]; rfl
    have : L4 (h / R) = [l4 h, l5 h, l6 h, l7 h] := by rw [e']; rfl
    rw [this, e4, e5, e6, e7] at hv
    exact h0 hv.symm
  by_cases e4 : l4 h = 0
  · by_cases e5 : l5 h = 0
    · by_cases e6 : l6 h = 0
      · exact ⟨3, by omega, rn_ok (by rw [e4]; rfl), rn_ok (by rw [e5]; rfl), rn_ok (by rw [e6]; rfl), rn_ok (eqX_false fun e7 => key ⟨e4, e5, e6, e7⟩), trivial⟩
      · exact ⟨2, by omega, rn_ok (by rw [e4]; rfl), rn_ok (by rw [e5]; rfl), rn_ok (eqX_false e6), trivial⟩
    · exact ⟨1, by omega, rn_ok (by rw [e4]; rfl), rn_ok (eqX_false e5), trivial⟩
  · exact ⟨0, by omega, rn_ok (eqX_false e4), trivial⟩

def goRecs (c i n h n' p : Nat) : List Rec := [pc 110 [NV c, hiV h] (WV p), pc 112 [NV n, NV p] (.tuple #[NV n', .bool false]), rn 34 (incX i) (I ((i + 1 : Nat) : Int))]
def goRecs1 (c i n h n' p : Nat) (q : Bool) : List Rec := [pc 110 [NV c, hiV h] (WV p), pc 112 [NV n, NV p] (.tuple #[NV n', .bool true]), pc 112 [hiV p, NV 1] (.tuple #[hiV n', .bool q]), rn 34 (incX i) (I ((i + 1 : Nat) : Int))]

theorem rd_go0 (m c w : Nat) (gl : List Nat) (i n h n' p : Nat) (γ : Nat → Nat) : ∀ j, j < 4 →
    endL (rdS m c w gl (I ((i + 1 : Nat) : Int)) n' p) (exec Try.prog rdC ⟨rdS m c w gl (I (i : Nat)) n h, (List.range 8).map γ, rn 32 (lt8X i) (.bool true) :: (nzRecs h j ++ goRecs c i n h n' p), []⟩) =
      endR .normal (rdS m c w gl (I ((i + 1 : Nat) : Int)) n' p) (exec Try.prog rdC ⟨rdS m c w gl (I (i : Nat)) n h, (List.range 8).map γ, rn 32 (lt8X i) (.bool true) :: (nzRecs h j ++ goRecs c i n h n' p), []⟩)
  | 0, _ => by kernel_rfl
  | 1, _ => by kernel_rfl
  | 2, _ => by kernel_rfl
  | 3, _ => by kernel_rfl
theorem rd_go1 (m c w : Nat) (gl : List Nat) (i n h n' p : Nat) (q : Bool) (γ : Nat → Nat) : ∀ j, j < 4 →
    endL (rdS m c w gl (I ((i + 1 : Nat) : Int)) n' n') (exec Try.prog rdC ⟨rdS m c w gl (I (i : Nat)) n h, (List.range 8).map γ, rn 32 (lt8X i) (.bool true) :: (nzRecs h j ++ goRecs1 c i n h n' p q), []⟩) =
      endR .normal (rdS m c w gl (I ((i + 1 : Nat) : Int)) n' n') (exec Try.prog rdC ⟨rdS m c w gl (I (i : Nat)) n h, (List.range 8).map γ, rn 32 (lt8X i) (.bool true) :: (nzRecs h j ++ goRecs1 c i n h n' p q), []⟩)
  | 0, _ => by kernel_rfl
  | 1, _ => by kernel_rfl
  | 2, _ => by kernel_rfl
  | 3, _ => by kernel_rfl
def zRecs (i h : Nat) : List Rec := [rn 32 (lt8X i) (.bool true), rn 37 (eqX (l4 h)) (.bool true), rn 41 (eqX (l5 h)) (.bool true), rn 46 (eqX (l6 h)) (.bool true), rn 51 (eqX (l7 h)) (.bool true)]
theorem rd_stop (m c w : Nat) (gl : List Nat) (i n h : Nat) (γ : Nat → Nat) :
    endL (rdP m c w gl n) (exec Try.prog rdC ⟨rdS m c w gl (I (i : Nat)) n h, (List.range 8).map γ, zRecs i h, []⟩) =
      endR (.exit 0) (rdP m c w gl n) (exec Try.prog rdC ⟨rdS m c w gl (I (i : Nat)) n h, (List.range 8).map γ, zRecs i h, []⟩) := by kernel_rfl

def redN (c : Nat) : Nat → Nat → Nat
  | 0, n => n
  | k + 1, n => redN c k (n % R + c * (n / R))
theorem redN_lt {c : Nat} : ∀ (k : Nat) {n : Nat}, n < R → redN c k n = n
  | 0, _, _ => rfl
  | k + 1, n, h => by rw [redN, Nat.mod_eq_of_lt h, Nat.div_eq_of_lt h, Nat.mul_zero, Nat.add_zero, redN_lt k h]
theorem redN_mod {m c : Nat} (hc : m + c = R) : ∀ k n, redN c k n % m = n % m
  | 0, _ => rfl
  | k + 1, n => by
    rw [redN, redN_mod hc k]
    have h := Nat.div_add_mod n R
    conv => rhs; rw [← h]
    rw [← hc, Nat.add_mul, Nat.add_assoc, Nat.mul_add_mod, hc, Nat.add_comm]

def bnd : Nat → Nat
  | 0 => R * R
  | 1 => R * (2 ^ 130 + 1)
  | 2 => 17 * R
  | 3 => R + 2 ^ 134
  | _ => R

theorem bnd_step {c n i : Nat} (hc : c < 2 ^ 130) (hn : n < bnd i) (hi : i < 4) : n % R + c * (n / R) < bnd (i + 1) := by
  have hR : R = 115792089237316195423570985008687907853269984665640564039457584007913129639936 := rfl
  have h1 : n % R < R := Nat.mod_lt _ (by decide)
  have h2 := Nat.div_add_mod n R
  match i, hi with
  | 0, _ =>
    have hq : n / R < R := Nat.div_lt_of_lt_mul hn
    have := Nat.mul_le_mul (Nat.le_of_lt hc) (Nat.le_of_lt hq)
    show _ < R * (2 ^ 130 + 1)
    rw [hR] at *
    omega
  | 1, _ =>
    have hq : n / R < 2 ^ 130 + 1 := Nat.div_lt_of_lt_mul hn
    have := Nat.mul_le_mul (Nat.le_of_lt hc) (Nat.le_of_lt_succ hq)
    show _ < 17 * R
    rw [hR] at *
    omega
  | 2, _ =>
    have hq : n / R < 17 := Nat.div_lt_of_lt_mul (by rw [Nat.mul_comm]; exact hn)
    have := Nat.mul_le_mul (Nat.le_of_lt hc) (Nat.le_of_lt_succ hq)
    show _ < R + 2 ^ 134
    rw [hR] at *
    omega
  | 3, _ =>
    have hn' : n < R + 2 ^ 134 := hn
    have hq : n / R < 2 := Nat.div_lt_of_lt_mul (Nat.lt_of_lt_of_le hn' (by decide))
    have : n / R = 0 ∨ n / R = 1 := Nat.le_one_iff_eq_zero_or_eq_one.1 (Nat.le_of_lt_succ hq)
    show _ < R
    rcases this with h | h
    · rw [h, Nat.mul_zero, Nat.add_zero]; exact h1
    · rw [h, Nat.mul_one]
      rw [h, Nat.mul_one] at h2
      rw [hR] at *
      omega
theorem bnd_le (i : Nat) : bnd i ≤ R * R := by
  unfold bnd
  split <;> decide

end Go.Proofs.Ytildcmggcbdhpaa

namespace Go.Proofs.Ytildcmggcbdhpaa
open Go.Ex Go.RowKit Lim

/-- a prime, and what 2^256 is by it -/
structure Fc (m c : Nat) : Prop where
  sum : m + c = R
  small : c < 2 ^ 130
  lt : m < R
theorem fcP : Fc P CP := ⟨by decide, by decide, by decide⟩
theorem fcQ : Fc Q CQ := ⟨by decide, by decide, by decide⟩

structure RdInv (c w : Nat) (i n h : Nat) : Prop where
  le : i ≤ 4
  lt : n < bnd i
  hlt : h < R * R
  eq : h / R = n / R
  fin : redN c (4 - i) n = redN c 4 w

noncomputable def rdRec (m c w : Nat) : Rec := .code rdC (fun gl => rdS m c w gl (I ((0 : Nat) : Int)) w w) (fun gl => rdP m c w gl (redN c 4 w)) (.exit 0)
theorem rdRec_ok {m c w : Nat} {w0 : World} (hf : Fc m c) (hw : w < R * R) : (rdRec m c w).Ok Try.prog w0 := by
  have hcR : c < R := Nat.lt_of_lt_of_le hf.small (by decide)
  have h0 : RdInv c w 0 w w := ⟨Nat.zero_le _, hw, hw, Eq.refl _, by rw [Nat.sub_zero]⟩
  refine Rec.ok_code follows (fun gl (k : Nat × Nat × Nat) => rdS m c w gl (I (k.1 : Nat)) k.2.1 k.2.2) (fun k => RdInv c w k.1 k.2.1 k.2.2) (fun k => 4 - k.1) (.exit 0) (fun gl => rdP m c w gl (redN c 4 w)) (fun h => by cases h) (0, w, w)
    h0 (fun gl k hk => ?_)
  obtain ⟨i, n, h⟩ := k
  obtain ⟨hle, hlt, hhl, heq, hfin⟩ := hk
  dsimp only at *
  by_cases hz : n / R = 0
  · have hnR : n < R := by
      rcases Nat.lt_or_ge n R with h | h
      · exact h
      · have := Nat.div_pos h (by decide : 0 < R)
        omega
    rw [redN_lt _ hnR] at hfin
    rw [← hfin]
    have hv := hiV_eq h
    rw [heq, hz] at hv
    have hi : l4 h = 0 ∧ l5 h = 0 ∧ l6 h = 0 ∧ l7 h = 0 := by
      have e' : h / R = h / B / B / B / B := by rw [Nat.div_div_eq_div_mul, Nat.div_div_eq_div_mul, Nat.div_div_eq_div_mul]; rfl
      rw [heq, hz] at e'
      unfold l4 l5 l6 l7
      rw [← e']
      exact ⟨rfl, rfl, rfl, rfl⟩
    obtain ⟨e4, e5, e6, e7⟩ := hi
    exact .stop 8 (zRecs i h) (RecsOk.all ⟨rn_ok (lt8X_eq (by omega)), rn_ok (by rw [e4]; rfl), rn_ok (by rw [e5]; rfl), rn_ok (by rw [e6]; rfl), rn_ok (by rw [e7]; rfl), trivial⟩) (fun γ => rd_stop m c w gl i n h γ)
  · have hi4 : i < 4 := by
      rcases Nat.lt_or_ge i 4 with h | h
      · exact h
      · have : i = 4 := by omega
        subst this
        exact absurd (Nat.div_eq_of_lt hlt) hz
    obtain ⟨j, hj, hnz⟩ := nzRecs_ok (w := w0) hhl (by rw [heq]; exact hz)
    have hstep := bnd_step hf.small hlt hi4
    have hn' := Nat.lt_of_lt_of_le hstep (bnd_le (i + 1))
    have hfin' : redN c (4 - (i + 1)) (n % R + c * (n / R)) = redN c 4 w := by
      rw [← hfin, show 4 - i = (4 - (i + 1)) + 1 by omega]; rfl
    have hnR : n < R * R := Nat.lt_of_lt_of_le hlt (bnd_le i)
    have hq : n / R < R := Nat.div_lt_of_lt_mul hnR
    have h110 := f110_ok hcR hq
    rw [← heq, ← hiV_eq h, heq] at h110
    have h112 := f112_ok (a := n % R) (b := c * (n / R) % R) (Nat.mod_lt _ (by decide)) (Nat.mod_lt _ (by decide))
    rw [Nat.add_mod_mod, NV_mod, NV_mod, NV_mod] at h112
    have hp : c * (n / R) < R * R := Nat.mul_lt_mul'' hcR hq
    have hR0 : 0 < R := by decide
    have hsum : (n % R + c * (n / R)) / R = c * (n / R) / R + (if R ≤ n % R + c * (n / R) % R then 1 else 0) := by
      have a1 := Nat.div_add_mod (c * (n / R)) R
      have a2 : n % R < R := Nat.mod_lt _ hR0
      have a3 : c * (n / R) % R < R := Nat.mod_lt _ hR0
      generalize c * (n / R) / R = u at *
      generalize c * (n / R) % R = v at *
      rw [← a1]
      split
      · rw [show n % R + (R * u + v) = (n % R + v - R) + R * (u + 1) by rw [Nat.mul_add]; omega, Nat.add_mul_div_left _ _ hR0, Nat.div_eq_of_lt (by omega)]
        omega
      · rw [show n % R + (R * u + v) = (n % R + v) + R * u by omega, Nat.add_mul_div_left _ _ hR0, Nat.div_eq_of_lt (by omega)]
        omega
    by_cases ho : R ≤ n % R + c * (n / R) % R
    · rw [decide_eq_true ho] at h112
      rw [if_pos ho] at hsum
      have hu : c * (n / R) / R < R := Nat.div_lt_of_lt_mul hp
      have h1 := f112_ok (a := c * (n / R) / R) (b := 1) hu (by decide)
      rw [NV_mod, ← hsum, ← hiV_eq, ← hiV_eq] at h1
      refine .go (i + 1, n % R + c * (n / R), n % R + c * (n / R)) ⟨by omega, hstep, hn', rfl, hfin'⟩ (by dsimp only; omega) 8 (rn 32 (lt8X i) (.bool true) :: (nzRecs h j ++ goRecs1 c i n h (n % R + c * (n / R)) (c * (n / R)) (decide (R ≤ (n % R + c * (n / R)) / R)))) ?_ (fun γ => rd_go1 m c w gl i n h (n % R + c * (n / R)) (c * (n / R)) (decide (R ≤ (n % R + c * (n / R)) / R)) γ j hj)
      exact RecsOk.all ⟨rn_ok (lt8X_eq (by omega)), hnz.append ⟨pc_ok h110, pc_ok h112, pc_ok h1, rn_ok (incX_eq (by omega)), trivial⟩⟩
    · rw [decide_eq_false ho] at h112
      rw [if_neg ho, Nat.add_zero] at hsum
      refine .go (i + 1, n % R + c * (n / R), c * (n / R)) ⟨by omega, hstep, hp, hsum.symm, hfin'⟩ (by dsimp only; omega) 8 (rn 32 (lt8X i) (.bool true) :: (nzRecs h j ++ goRecs c i n h (n % R + c * (n / R)) (c * (n / R)))) ?_ (fun γ => rd_go0 m c w gl i n h (n % R + c * (n / R)) (c * (n / R)) γ j hj)
      exact RecsOk.all ⟨rn_ok (lt8X_eq (by omega)), hnz.append ⟨pc_ok h110, pc_ok h112, rn_ok (incX_eq (by omega)), trivial⟩⟩

/-- (Field).Reduce -/
theorem f76_ok {m c w : Nat} (hf : Fc m c) (hw : w < R * R) : Pure 76 [FV m c, WV w] (NV (w % m)) := by
  have hR : R = 115792089237316195423570985008687907853269984665640564039457584007913129639936 := rfl
  have hs := hf.sum
  have hc := hf.small
  have hm := hf.lt
  have hfin : redN c 4 w < R := by
    have s1 := bnd_step (i := 0) hc hw (by decide)
    have s2 := bnd_step (i := 1) hc s1 (by decide)
    have s3 := bnd_step (i := 2) hc s2 (by decide)
    exact bnd_step (i := 3) hc s3 (by decide)
  have hmod := redN_mod hs 4 w
  generalize hN : redN c 4 w = n at *
  have hrec := fun w0 : World => rdRec_ok (w := w) (w0 := w0) hf hw
  unfold rdRec at hrec
  rw [hN] at hrec
  have h1 := f94_ok hfin hm
  by_cases hl : n < m
  · rw [decide_eq_true hl] at h1
    rw [← hmod, Nat.mod_eq_of_lt hl]
    exact pure_of Try.func76 rfl 8 [FV m c, WV w] [.code rdC (fun gl => rdS m c w gl (I ((0 : Nat) : Int)) w w) (fun gl => rdP m c w gl n) (.exit 0), pc 94 [NV n, NV m] (.bool true)] _ (fun w0 => ⟨hrec w0, pc_ok h1, trivial⟩) (fun γ => by kernel_rfl)
  · rw [decide_eq_false hl] at h1
    have h2 := f113_ok hfin hm
    have h3 := f94_ok (a := n - m) (b := m) (by omega) hm
    rw [show n + R - m = (n - m) + R by omega, Nat.add_mod_right, Nat.mod_eq_of_lt (by omega)] at h2
    have hlt : n - m < m := by rw [hR] at hs hfin; omega
    rw [decide_eq_true hlt] at h3
    rw [← hmod, Nat.mod_eq_sub_mod (by omega), Nat.mod_eq_of_lt hlt]
    exact pure_of Try.func76 rfl 8 [FV m c, WV w] [.code rdC (fun gl => rdS m c w gl (I ((0 : Nat) : Int)) w w) (fun gl => rdP m c w gl n) (.exit 0), pc 94 [NV n, NV m] (.bool false), pc 113 [NV n, NV m] (NV (n - m)), pc 94 [NV (n - m), NV m] (.bool true)] _ (fun w0 => ⟨hrec w0, pc_ok h1, pc_ok h2, pc_ok h3, trivial⟩) (fun γ => by kernel_rfl)

/-- (Field).Mul -/
theorem f66_ok {m c a b : Nat} (hf : Fc m c) (ha : a < R) (hb : b < R) : Pure 66 [FV m c, NV a, NV b] (NV (a * b % m)) :=
  pure_of Try.func66 rfl 8 _ [pc 110 [NV a, NV b] (WV (a * b)), pc 76 [FV m c, WV (a * b)] (NV (a * b % m))] _ (fun _ => ⟨pc_ok (f110_ok ha hb), pc_ok (f76_ok hf (Nat.mul_lt_mul'' ha hb)), trivial⟩) (fun γ => by kernel_rfl)

end Go.Proofs.Ytildcmggcbdhpaa

namespace Go.Proofs.Ytildcmggcbdhpaa
open Go.Ex Go.RowKit Lim

noncomputable def pwC : Code := (loopsOf (Fx Try.f124)).getD 1 .skip
noncomputable def pwS (m c a e d : Nat) (gl : List Nat) (v : Value) (r : Nat) : St :=
  ⟨frOf Try.f124.ntmps [(3, PT (gl.getD 0 0)), (4, PT (gl.getD 1 0)), (5, PT (gl.getD 2 0)), (6, PT (gl.getD 3 0)), (7, PT (gl.getD 4 0)), (8, I (d : Nat)), (9, v)],
    tgOf Try.f124.ntmps [(3, .at_ 0), (4, .at_ 1), (5, .at_ 2), (6, .at_ 3), (7, .at_ 4)],
    [FE (gl.getD 0 0) m c true, numE (gl.getD 1 0) a true, numE (gl.getD 2 0) e true, numE (gl.getD 3 0) 0 true, numE (gl.getD 4 0) r true]⟩

def shrU (x j : Nat) : Sem Value := Op.shift .shr .u64 (x : Int) .u64 (IntKind.u64.wrap (j : Int))
def shrUF (d x j : Nat) : Rec := opF d (shrU x j) (U (x / 2 ^ j))
theorem shrUF_ok {w0 : World} {d x j : Nat} (hj : j ≤ 64) : (shrUF d x j).Ok Try.prog w0 := opF_ok fun w => by
  have e : (2 : Int) ^ j = ((2 ^ j : Nat) : Int) := by rw [Int.natCast_pow]; rfl
  unfold shrU
  rw [wrap_in (show j < B by unfold B; omega), shift_shr _ _ _ _ (by omega) (by show (j : Int) ≤ (64 : Nat); omega), Int.toNat_natCast, e, ← Int.natCast_ediv]
  rfl
def remX (x : Nat) : Value := .int .u64 (Int.tmod (x : Int) 2)
theorem remX_eq (x : Nat) : remX x = U (x % 2) := by
  unfold remX
  rw [Int.tmod_eq_emod_of_nonneg (by omega)]
  rfl

def pwHead (m c r r' n x b : Nat) : List Rec := [rn 16 (geX n) (.bool true), pc 66 [FV m c, NV r, NV r] (NV r'), shrUF 28 x n, rn 29 (remX (x / 2 ^ n)) (U b)]
theorem pw_go0 (m c a e : Nat) (gl : List Nat) (n r r' : Nat) (γ : Nat → Nat) : ∀ d, d < 4 →
    endL (pwS m c a e d gl (V8 n) r') (exec Try.prog pwC ⟨pwS m c a e d gl (I (n : Nat)) r, (List.range 8).map γ, pwHead m c r r' n (dg e d) 0 ++ [rn 18 (decX n) (V8 n)], []⟩) =
      endR .normal (pwS m c a e d gl (V8 n) r') (exec Try.prog pwC ⟨pwS m c a e d gl (I (n : Nat)) r, (List.range 8).map γ, pwHead m c r r' n (dg e d) 0 ++ [rn 18 (decX n) (V8 n)], []⟩)
  | 0, _ => by kernel_rfl
  | 1, _ => by kernel_rfl
  | 2, _ => by kernel_rfl
  | 3, _ => by kernel_rfl
theorem pw_go1 (m c a e : Nat) (gl : List Nat) (n r r' r'' : Nat) (γ : Nat → Nat) : ∀ d, d < 4 →
    endL (pwS m c a e d gl (V8 n) r'') (exec Try.prog pwC ⟨pwS m c a e d gl (I (n : Nat)) r, (List.range 8).map γ, pwHead m c r r' n (dg e d) 1 ++ [pc 66 [FV m c, NV r', NV a] (NV r''), rn 18 (decX n) (V8 n)], []⟩) =
      endR .normal (pwS m c a e d gl (V8 n) r'') (exec Try.prog pwC ⟨pwS m c a e d gl (I (n : Nat)) r, (List.range 8).map γ, pwHead m c r r' n (dg e d) 1 ++ [pc 66 [FV m c, NV r', NV a] (NV r''), rn 18 (decX n) (V8 n)], []⟩)
  | 0, _ => by kernel_rfl
  | 1, _ => by kernel_rfl
  | 2, _ => by kernel_rfl
  | 3, _ => by kernel_rfl
theorem pw_stop (m c a e d : Nat) (gl : List Nat) (r : Nat) (γ : Nat → Nat) :
    endL (pwS m c a e d gl (V8 0) r) (exec Try.prog pwC ⟨pwS m c a e d gl (V8 0) r, (List.range 8).map γ, [], []⟩) =
      endR (.exit 2) (pwS m c a e d gl (V8 0) r) (exec Try.prog pwC ⟨pwS m c a e d gl (V8 0) r, (List.range 8).map γ, [], []⟩) := by kernel_rfl

def pwV (m a e k : Nat) : Nat := a ^ (e / 2 ^ k) % m
noncomputable def pwRec (m c a e d k : Nat) : Rec := .code pwC (fun gl => pwS m c a e d gl (V8 k) (pwV m a e (64 * d + k))) (fun gl => pwS m c a e d gl (V8 0) (pwV m a e (64 * d))) (.exit 2)
theorem pwRec_ok {m c a e d k : Nat} {w0 : World} (hf : Fc m c) (hm : 0 < m) (ha : a < R) (hd : d < 4) (hk : k ≤ 64) : (pwRec m c a e d k).Ok Try.prog w0 := by
  have hmR := hf.lt
  refine Rec.ok_code follows (fun gl k => pwS m c a e d gl (V8 k) (pwV m a e (64 * d + k))) (fun k => k ≤ 64) id (.exit 2) (fun gl => pwS m c a e d gl (V8 0) (pwV m a e (64 * d))) (fun h => by cases h) k hk (fun gl k hk => ?_)
  have hlt : ∀ j, pwV m a e j < R := fun j => Nat.lt_trans (Nat.mod_lt _ hm) hmR
  cases k with
  | zero => exact .stop 8 [] (fun r hr => by cases hr) (fun γ => pw_stop m c a e d gl (pwV m a e (64 * d)) γ)
  | succ n =>
    have hx : dg e d < B := dg_lt (by omega)
    have hbd := bit_d e (d := d) (j := n) (by omega)
    rw [← dg_eq e d (by omega)] at hbd
    have h1 := f66_ok hf (hlt (64 * d + (n + 1))) (hlt (64 * d + (n + 1)))
    have e1 : pwV m a e (64 * d + (n + 1)) * pwV m a e (64 * d + (n + 1)) % m = a ^ (2 * (e / 2 ^ (64 * d + n + 1))) % m := by
      unfold pwV
      rw [← Nat.mul_mod, ← Nat.pow_add, ← Nat.two_mul, Nat.add_assoc]
    rw [e1] at h1
    have hstep := bits_step e (64 * d + n)
    have hbit : bitN e (64 * d + n) = 0 ∨ bitN e (64 * d + n) = 1 := by unfold bitN; omega
    have hhead : ∀ b, bitN e (64 * d + n) = b → RecsOk w0 (pwHead m c (pwV m a e (64 * d + (n + 1))) (a ^ (2 * (e / 2 ^ (64 * d + n + 1))) % m) n (dg e d) b) := fun b hb =>
      ⟨rn_ok (geX_eq n), pc_ok h1, shrUF_ok (by omega), rn_ok (by rw [remX_eq, hbd, hb]), trivial⟩
    rcases hbit with h0 | h0
    · have ev : pwV m a e (64 * d + n) = a ^ (2 * (e / 2 ^ (64 * d + n + 1))) % m := by unfold pwV; rw [hstep, h0, Nat.add_zero]
      have hh := hhead 0 h0
      rw [← ev] at hh
      exact .go n (by omega) (by simp) 8 (pwHead m c (pwV m a e (64 * d + (n + 1))) (pwV m a e (64 * d + n)) n (dg e d) 0 ++ [rn 18 (decX n) (V8 n)]) ((hh.append (m := [rn 18 (decX n) (V8 n)]) ⟨rn_ok (decX_eq (by omega)), trivial⟩).all) (fun γ => pw_go0 m c a e gl n _ _ γ d hd)
    · have h2 := f66_ok hf (a := a ^ (2 * (e / 2 ^ (64 * d + n + 1))) % m) (b := a) (Nat.lt_trans (Nat.mod_lt _ hm) hmR) ha
      rw [Nat.mod_mul_mod, ← Nat.pow_succ] at h2
      have ev : pwV m a e (64 * d + n) = a ^ (2 * (e / 2 ^ (64 * d + n + 1)) + 1) % m := by unfold pwV; rw [hstep, h0]
      rw [← ev] at h2
      exact .go n (by omega) (by simp) 8 (pwHead m c (pwV m a e (64 * d + (n + 1))) (a ^ (2 * (e / 2 ^ (64 * d + n + 1))) % m) n (dg e d) 1 ++ [pc 66 [FV m c, NV (a ^ (2 * (e / 2 ^ (64 * d + n + 1))) % m), NV a] (NV (pwV m a e (64 * d + n))), rn 18 (decX n) (V8 n)]) (((hhead 1 h0).append (m := [pc 66 [FV m c, NV (a ^ (2 * (e / 2 ^ (64 * d + n + 1))) % m), NV a] (NV (pwV m a e (64 * d + n))), rn 18 (decX n) (V8 n)]) ⟨pc_ok h2, rn_ok (decX_eq (by omega)), trivial⟩).all) (fun γ => pw_go1 m c a e gl n _ _ _ γ d hd)

noncomputable def pwRecs (m c a e r1 r2 r3 r4 : Nat) : List Rec := [rn 12 (.bool true) (.bool true), .code pwC (fun gl => pwS m c a e 3 gl (V8 64) 1) (fun gl => pwS m c a e 3 gl (V8 0) r3) (.exit 2),
      rn 12 (.bool true) (.bool true), .code pwC (fun gl => pwS m c a e 2 gl (V8 64) r3) (fun gl => pwS m c a e 2 gl (V8 0) r2) (.exit 2), rn 12 (.bool true) (.bool true), .code pwC (fun gl => pwS m c a e 1 gl (V8 64) r2) (fun gl => pwS m c a e 1 gl (V8 0) r1) (.exit 2),
      rn 12 (.bool true) (.bool true), .code pwC (fun gl => pwS m c a e 0 gl (V8 64) r1) (fun gl => pwS m c a e 0 gl (V8 0) r4) (.exit 2)]
/-- (Field).Pow -/
theorem f124_raw (m c a e r1 r2 r3 r4 : Nat) (γ : Nat → Nat) :
    outL Try.prog Try.f124.results.toList [] (exec Try.prog (Fx Try.f124) ⟨Ex.start Try.f124.ntmps [(FV m c, .no), (NV a, .no), (NV e, .no)] [], (List.range 8).map γ, pwRecs m c a e r1 r2 r3 r4, []⟩) =
      outR Try.prog Try.f124.results.toList [] (NV r4) (exec Try.prog (Fx Try.f124) ⟨Ex.start Try.f124.ntmps [(FV m c, .no), (NV a, .no), (NV e, .no)] [], (List.range 8).map γ, pwRecs m c a e r1 r2 r3 r4, []⟩) := by kernel_rfl

theorem f124_ok {m c a e : Nat} (hf : Fc m c) (h1 : 1 < m) (ha : a < R) (he : e < R) : Pure 124 [FV m c, NV a, NV e] (NV (a ^ e % m)) := by
  have hm : 0 < m := by omega
  have e3 : pwV m a e 256 = 1 := by
    unfold pwV
    rw [show (2 : Nat) ^ 256 = R from by decide, Nat.div_eq_of_lt he, Nat.pow_zero, Nat.mod_eq_of_lt h1]
  have e0 : pwV m a e 0 = a ^ e % m := by unfold pwV; rw [Nat.pow_zero, Nat.div_one]
  have r3 := fun w0 : World => pwRec_ok (e := e) (d := 3) (k := 64) (w0 := w0) hf hm ha (by omega) (by omega)
  have r2 := fun w0 : World => pwRec_ok (e := e) (d := 2) (k := 64) (w0 := w0) hf hm ha (by omega) (by omega)
  have r1 := fun w0 : World => pwRec_ok (e := e) (d := 1) (k := 64) (w0 := w0) hf hm ha (by omega) (by omega)
  have r0 := fun w0 : World => pwRec_ok (e := e) (d := 0) (k := 64) (w0 := w0) hf hm ha (by omega) (by omega)
  unfold pwRec at r3 r2 r1 r0
  simp only [Nat.reduceMul, Nat.reduceAdd, Nat.zero_add] at r3 r2 r1 r0
  rw [e3] at r3
  rw [e0] at r0
  exact pure_of Try.func124 rfl 8 [FV m c, NV a, NV e] (pwRecs m c a e (pwV m a e 64) (pwV m a e 128) (pwV m a e 192) (a ^ e % m)) _ (fun w => ⟨rn_ok rfl, r3 w, rn_ok rfl, r2 w, rn_ok rfl, r1 w, rn_ok rfl, r0 w, trivial⟩) (fun γ => f124_raw m c a e _ _ _ _ γ)

/-- (Field).Inv -/
theorem f107_ok {m c a : Nat} (hf : Fc m c) (h1 : 2 ≤ m) (ha : a < R) : Pure 107 [FV m c, NV a] (NV (a ^ (m - 2) % m)) := by
  have hm := hf.lt
  have h2 := f113_ok (a := m) (b := 2) hm (by decide)
  rw [show m + R - 2 = (m - 2) + R by omega, Nat.add_mod_right, Nat.mod_eq_of_lt (by omega)] at h2
  exact pure_of Try.func107 rfl 8 _ [pc 113 [NV m, NV 2] (NV (m - 2)), pc 124 [FV m c, NV a, NV (m - 2)] (NV (a ^ (m - 2) % m))] _ (fun _ => ⟨pc_ok h2, pc_ok (f124_ok hf (by omega) ha (by omega)), trivial⟩) (fun γ => by kernel_rfl)

end Go.Proofs.Ytildcmggcbdhpaa

namespace Go.Proofs.Ytildcmggcbdhpaa
open Go.Ex Go.RowKit Lim

def fM (a b : Nat) : Rec := pc 66 [FV P CP, NV a, NV b] (NV (fmul a b))
def fA (a b : Nat) : Rec := pc 109 [FV P CP, NV a, NV b] (NV (fadd a b))
def fS (a b : Nat) : Rec := pc 70 [FV P CP, NV a, NV b] (NV (fsub a b))
def fB : Rec := pc 65 [] (FV P CP)
theorem fM_ok {w : World} {a b : Nat} (ha : a < R) (hb : b < R) : (fM a b).Ok Try.prog w := pc_ok (f66_ok fcP ha hb)
theorem fA_ok {w : World} {a b : Nat} (ha : a < P) (hb : b < P) : (fA a b).Ok Try.prog w := pc_ok (f109_ok P_R ha hb)
theorem fS_ok {w : World} {a b : Nat} (ha : a < P) (hb : b < P) : (fS a b).Ok Try.prog w := pc_ok (f70_ok P_R ha hb)
theorem fB_ok {w : World} : fB.Ok Try.prog w := pc_ok f65_ok
theorem ltR {a : Nat} (h : a < P) : a < R := Nat.lt_trans h P_R
theorem mR' (a b : Nat) : fmul a b < R := ltR (fmul_lt a b)
theorem aR' (a b : Nat) : fadd a b < R := ltR (fadd_lt a b)
theorem sR' (a b : Nat) : fsub a b < R := ltR (fsub_lt a b)
/-- is it 0? -/
def zB (a : Nat) (q : Bool) : Rec := pc 64 [NV a] (.bool q)
theorem zB_ok {w : World} {a : Nat} {q : Bool} (ha : a < R) (hq : decide (a = 0) = q) : (zB a q).Ok Try.prog w := pc_ok (by rw [← hq]; exact f64_ok ha)

/-- wardmoteref03.G -/
theorem f72_ok : Pure 72 [] (PV GX GY false) := pure_of Try.func72 rfl 8 [] [] _ (fun _ => trivial) (fun γ => by kernel_rfl)

/-- wardmoteref03.cubic -/
theorem f67_ok {x : Nat} (hx : x < R) : Pure 67 [NV x] (NV (cub x)) :=
  pure_of Try.func67 rfl 8 [NV x] [fB, fM x x, fM (fmul x x) x, fA (fmul (fmul x x) x) 7] _ (fun _ => ⟨fB_ok, fM_ok hx hx, fM_ok (mR' _ _) hx, fA_ok (fmul_lt _ _) (by decide), trivial⟩) (fun γ => by kernel_rfl)

/-- wardmoteref03.Is -/
theorem f20_inf {x y : Nat} (hx : x < R) (hy : y < R) : Pure 20 [PV x y true] (.bool (isPt x y true)) := by
  by_cases h : x = 0
  · have : isPt x y true = decide (y = 0) := by simp [isPt, h]
    rw [this]
    exact pure_of Try.func20 rfl 8 [PV x y true] [zB x true, zB y (decide (y = 0))] _ (fun _ => ⟨zB_ok hx (decide_eq_true h), zB_ok hy rfl, trivial⟩) (fun γ => by kernel_rfl)
  · have : isPt x y true = false := by simp [isPt, h]
    rw [this]
    exact pure_of Try.func20 rfl 8 [PV x y true] [zB x false] _ (fun _ => ⟨zB_ok hx (decide_eq_false h), trivial⟩) (fun γ => by kernel_rfl)
theorem f20_aff {x y : Nat} (hx : x < R) (hy : y < R) : Pure 20 [PV x y false] (.bool (isPt x y false)) := by
  have a1 := f46_ok (m := P) (c := CP) P_R hx
  have a2 := f46_ok (m := P) (c := CP) P_R hy
  by_cases h : x < P
  · rw [decide_eq_true h] at a1
    by_cases h' : y < P
    · rw [decide_eq_true h'] at a2
      have : isPt x y false = decide (fmul y y = cub x) := by simp [isPt, h, h']
      rw [this]
      exact pure_of Try.func20 rfl 8 [PV x y false] [fB, pc 46 [FV P CP, NV x] (.bool true), pc 46 [FV P CP, NV y] (.bool true), fM y y, pc 67 [NV x] (NV (cub x)), eqF 35 (fmul y y) (cub x)] _
        (fun _ => ⟨fB_ok, pc_ok a1, pc_ok a2, fM_ok hy hy, pc_ok (f67_ok hx), eqF_ok (mR' _ _) (aR' _ _), trivial⟩) (fun γ => by kernel_rfl)
    · rw [decide_eq_false h'] at a2
      have : isPt x y false = false := by simp [isPt, h']
      rw [this]
      exact pure_of Try.func20 rfl 8 [PV x y false] [fB, pc 46 [FV P CP, NV x] (.bool true), pc 46 [FV P CP, NV y] (.bool false)] _ (fun _ => ⟨fB_ok, pc_ok a1, pc_ok a2, trivial⟩) (fun γ => by kernel_rfl)
  · rw [decide_eq_false h] at a1
    have : isPt x y false = false := by simp [isPt, h]
    rw [this]
    exact pure_of Try.func20 rfl 8 [PV x y false] [fB, pc 46 [FV P CP, NV x] (.bool false)] _ (fun _ => ⟨fB_ok, pc_ok a1, trivial⟩) (fun γ => by kernel_rfl)
theorem f20_ok {x y : Nat} {inf : Bool} (hx : x < R) (hy : y < R) : Pure 20 [PV x y inf] (.bool (isPt x y inf)) := by
  cases inf
  · exact f20_aff hx hy
  · exact f20_inf hx hy

def oIn (x y : Nat) (inf : Bool) : J := if inf then ⟨0, 1, 0⟩ else ⟨x, y, 1⟩
/-- wardmoteref03.In -/
theorem f62_ok {x y : Nat} : ∀ inf : Bool, Pure 62 [PV x y inf] (oIn x y inf).v
  | true => pure_of Try.func62 rfl 8 [PV x y true] [] _ (fun _ => trivial) (fun γ => by kernel_rfl)
  | false => pure_of Try.func62 rfl 8 [PV x y false] [] _ (fun _ => trivial) (fun γ => by kernel_rfl)

/-- wardmoteref03.Out -/
theorem f60_inf {x y : Nat} : Pure 60 [JV x y 0] (PV 0 0 true) :=
  pure_of Try.func60 rfl 8 [JV x y 0] [zB 0 true] _ (fun _ => ⟨zB_ok (by decide) rfl, trivial⟩) (fun γ => by kernel_rfl)
theorem f60_aff {x y z : Nat} (hx : x < P) (hy : y < P) (hz : z < P) (h0 : z ≠ 0) : Pure 60 [JV x y z] (PV (fmul x (inv z)) (fmul y (inv z)) false) :=
  pure_of Try.func60 rfl 8 [JV x y z] [zB z false, fB, pc 107 [FV P CP, NV z] (NV (inv z)), fM x (inv z), fM y (inv z)] _
    (fun _ => ⟨zB_ok (ltR hz) (decide_eq_false h0), fB_ok, pc_ok (f107_ok fcP (by decide) (ltR hz)), fM_ok (ltR hx) (ltR (inv_lt _)), fM_ok (ltR hy) (ltR (inv_lt _)), trivial⟩) (fun γ => by kernel_rfl)

/-- wardmoteref03.Neg -/
theorem f22_ok {x y : Nat} (hy : y < P) : ∀ inf : Bool, Pure 22 [PV x y inf] (PV x (fsub 0 y) inf)
  | true => pure_of Try.func22 rfl 8 [PV x y true] [fB, fS 0 y] _ (fun _ => ⟨fB_ok, fS_ok P_pos hy, trivial⟩) (fun γ => by kernel_rfl)
  | false => pure_of Try.func22 rfl 8 [PV x y false] [fB, fS 0 y] _ (fun _ => ⟨fB_ok, fS_ok P_pos hy, trivial⟩) (fun γ => by kernel_rfl)

def tW (x : Nat) : Nat := fadd (fadd (fmul x x) (fmul x x)) (fmul x x)
def tS (p : J) : Nat := fmul p.y p.z
def tB (p : J) : Nat := fmul (fmul p.x p.y) (tS p)
def t4 (b : Nat) : Nat := fadd (fadd b b) (fadd b b)
def tH (p : J) : Nat := fsub (fmul (tW p.x) (tW p.x)) (fadd (t4 (tB p)) (t4 (tB p)))
def tY (p : J) : Nat := fmul (fmul p.y (tS p)) (fmul p.y (tS p))
def tZ (p : J) : Nat := t4 (fmul (fmul (tS p) (tS p)) (tS p))
def tX (p : J) : J := ⟨fadd (fmul (tH p) (tS p)) (fmul (tH p) (tS p)), fsub (fmul (tW p.x) (fsub (t4 (tB p)) (tH p))) (fadd (t4 (tY p)) (t4 (tY p))), fadd (tZ p) (tZ p)⟩
def twi (p : J) : J := if p.z = 0 then ⟨0, 1, 0⟩ else if p.y = 0 then ⟨0, 1, 0⟩ else tX p
def f4 (b : Nat) : List Rec := [fA b b, fA b b, fA (fadd b b) (fadd b b)]
theorem f4_ok {w : World} {b : Nat} (hb : b < P) : RecsOk w (f4 b) := ⟨fA_ok hb hb, fA_ok hb hb, fA_ok (fadd_lt _ _) (fadd_lt _ _), trivial⟩
theorem t4_lt (b : Nat) : t4 b < P := fadd_lt _ _

def twRecs (p : J) : List Rec := [zB p.z false, zB p.y false, fB, fM p.x p.x, fA (fmul p.x p.x) (fmul p.x p.x), fA (fadd (fmul p.x p.x) (fmul p.x p.x)) (fmul p.x p.x), fM p.y p.z, fM p.x p.y, fM (fmul p.x p.y) (tS p)] ++ (f4 (tB p) ++
  ([fM (tW p.x) (tW p.x), fA (t4 (tB p)) (t4 (tB p)), fS (fmul (tW p.x) (tW p.x)) (fadd (t4 (tB p)) (t4 (tB p))), fM (tH p) (tS p), fM p.y (tS p), fM (fmul p.y (tS p)) (fmul p.y (tS p))] ++ (f4 (tY p) ++
  ([fM (tS p) (tS p), fM (fmul (tS p) (tS p)) (tS p)] ++ (f4 (fmul (fmul (tS p) (tS p)) (tS p)) ++
  [fA (fmul (tH p) (tS p)) (fmul (tH p) (tS p)), fS (t4 (tB p)) (tH p), fM (tW p.x) (fsub (t4 (tB p)) (tH p)), fA (t4 (tY p)) (t4 (tY p)), fS (fmul (tW p.x) (fsub (t4 (tB p)) (tH p))) (fadd (t4 (tY p)) (t4 (tY p))), fA (tZ p) (tZ p)])))))
theorem twRecs_ok {w : World} {p : J} (hp : p.lt) (h0 : p.z ≠ 0) (h1 : p.y ≠ 0) : RecsOk w (twRecs p) := by
  obtain ⟨hx, hy, hz⟩ := hp
  refine RecsOk.append ⟨zB_ok (ltR hz) (decide_eq_false h0), zB_ok (ltR hy) (decide_eq_false h1), fB_ok, fM_ok (ltR hx) (ltR hx), fA_ok (fmul_lt _ _) (fmul_lt _ _), fA_ok (fadd_lt _ _) (fmul_lt _ _), fM_ok (ltR hy) (ltR hz), fM_ok (ltR hx) (ltR hy), fM_ok (mR' _ _) (mR' _ _), trivial⟩ ?_
  refine RecsOk.append (f4_ok (fmul_lt _ _)) (RecsOk.append ?_ (RecsOk.append (f4_ok (fmul_lt _ _)) (RecsOk.append ?_ (RecsOk.append (f4_ok (fmul_lt _ _)) ?_))))
  · exact ⟨fM_ok (aR' _ _) (aR' _ _), fA_ok (t4_lt _) (t4_lt _), fS_ok (fmul_lt _ _) (fadd_lt _ _), fM_ok (sR' _ _) (mR' _ _), fM_ok (ltR hy) (mR' _ _), fM_ok (mR' _ _) (mR' _ _), trivial⟩
  · exact ⟨fM_ok (mR' _ _) (mR' _ _), fM_ok (mR' _ _) (mR' _ _), trivial⟩
  · exact ⟨fA_ok (fmul_lt _ _) (fmul_lt _ _), fS_ok (t4_lt _) (fsub_lt _ _), fM_ok (aR' _ _) (sR' _ _), fA_ok (t4_lt _) (t4_lt _), fS_ok (fmul_lt _ _) (fadd_lt _ _), fA_ok (t4_lt _) (t4_lt _), trivial⟩

/-- wardmoteref03.Twice -/
theorem f108_ok {p : J} (hp : p.lt) : Pure 108 [p.v] (twi p).v := by
  by_cases h0 : p.z = 0
  · have e : twi p = ⟨0, 1, 0⟩ := by unfold twi; rw [if_pos h0]
    rw [e]
    exact pure_of Try.func108 rfl 24 [p.v] [zB p.z true] _ (fun _ => ⟨zB_ok (ltR hp.2.2) (decide_eq_true h0), trivial⟩) (fun γ => by kernel_rfl)
  · by_cases h1 : p.y = 0
    · have e : twi p = ⟨0, 1, 0⟩ := by unfold twi; rw [if_neg h0, if_pos h1]
      rw [e]
      exact pure_of Try.func108 rfl 24 [p.v] [zB p.z false, zB p.y true] _ (fun _ => ⟨zB_ok (ltR hp.2.2) (decide_eq_false h0), zB_ok (ltR hp.2.1) (decide_eq_true h1), trivial⟩) (fun γ => by kernel_rfl)
    · have e : twi p = tX p := by unfold twi; rw [if_neg h0, if_neg h1]
      rw [e]
      exact pure_of Try.func108 rfl 24 [p.v] (twRecs p) _ (fun _ => twRecs_ok hp h0 h1) (fun γ => by kernel_rfl)
theorem twi_lt (p : J) : (twi p).lt := by
  unfold twi
  split
  · exact ⟨P_pos, by decide, P_pos⟩
  · split
    · exact ⟨P_pos, by decide, P_pos⟩
    · exact ⟨fadd_lt _ _, fsub_lt _ _, fadd_lt _ _⟩

def oU (a b : J) : Nat := fsub (fmul b.y a.z) (fmul a.y b.z)
def oV (a b : J) : Nat := fsub (fmul b.x a.z) (fmul a.x b.z)
def oZ (a b : J) : Nat := fmul a.z b.z
def o2 (a b : J) : Nat := fmul (oV a b) (oV a b)
def o3 (a b : J) : Nat := fmul (o2 a b) (oV a b)
def oW (a b : J) : Nat := fmul (o2 a b) (fmul a.x b.z)
def oT (a b : J) : Nat := fsub (fsub (fmul (fmul (oU a b) (oU a b)) (oZ a b)) (o3 a b)) (fadd (oW a b) (oW a b))
def oP (a b : J) : J := ⟨fmul (oV a b) (oT a b), fsub (fmul (oU a b) (fsub (oW a b) (oT a b))) (fmul (o3 a b) (fmul a.y b.z)), fmul (o3 a b) (oZ a b)⟩
def opl (a b : J) : J := if a.z = 0 then b else if b.z = 0 then a else if oV a b = 0 then (if oU a b = 0 then twi a else ⟨0, 1, 0⟩) else oP a b
theorem opl_lt {a b : J} (ha : a.lt) (hb : b.lt) : (opl a b).lt := by
  unfold opl
  split
  · exact hb
  · split
    · exact ha
    · split
      · split
        · exact twi_lt a
        · exact ⟨P_pos, by decide, P_pos⟩
      · exact ⟨fmul_lt _ _, fsub_lt _ _, fmul_lt _ _⟩

def opHead (a b : J) : List Rec := [zB a.z false, zB b.z false, fB, fM b.y a.z, fM a.y b.z, fS (fmul b.y a.z) (fmul a.y b.z), fM b.x a.z, fM a.x b.z, fS (fmul b.x a.z) (fmul a.x b.z)]
theorem opHead_ok {w : World} {a b : J} (ha : a.lt) (hb : b.lt) (h0 : a.z ≠ 0) (h1 : b.z ≠ 0) : RecsOk w (opHead a b) :=
  ⟨zB_ok (ltR ha.2.2) (decide_eq_false h0), zB_ok (ltR hb.2.2) (decide_eq_false h1), fB_ok, fM_ok (ltR hb.2.1) (ltR ha.2.2), fM_ok (ltR ha.2.1) (ltR hb.2.2), fS_ok (fmul_lt _ _) (fmul_lt _ _), fM_ok (ltR hb.1) (ltR ha.2.2), fM_ok (ltR ha.1) (ltR hb.2.2), fS_ok (fmul_lt _ _) (fmul_lt _ _), trivial⟩

/-- wardmoteref03.Plus -/
theorem f61_ok {a b : J} (ha : a.lt) (hb : b.lt) : Pure 61 [a.v, b.v] (opl a b).v := by
  by_cases h0 : a.z = 0
  · have e : opl a b = b := by unfold opl; rw [if_pos h0]
    rw [e]
    exact pure_of Try.func61 rfl 24 [a.v, b.v] [zB a.z true] _ (fun _ => ⟨zB_ok (ltR ha.2.2) (decide_eq_true h0), trivial⟩) (fun γ => by kernel_rfl)
  · by_cases h1 : b.z = 0
    · have e : opl a b = a := by unfold opl; rw [if_neg h0, if_pos h1]
      rw [e]
      exact pure_of Try.func61 rfl 24 [a.v, b.v] [zB a.z false, zB b.z true] _ (fun _ => ⟨zB_ok (ltR ha.2.2) (decide_eq_false h0), zB_ok (ltR hb.2.2) (decide_eq_true h1), trivial⟩) (fun γ => by kernel_rfl)
    · by_cases h2 : oV a b = 0
      · by_cases h3 : oU a b = 0
        · have e : opl a b = twi a := by unfold opl; rw [if_neg h0, if_neg h1, if_pos h2, if_pos h3]
          rw [e]
          exact pure_of Try.func61 rfl 24 [a.v, b.v] (opHead a b ++ [zB (oV a b) true, zB (oU a b) true, pc 108 [a.v] (JV (twi a).x (twi a).y (twi a).z)]) _
            (fun _ => (opHead_ok ha hb h0 h1).append ⟨zB_ok (sR' _ _) (decide_eq_true h2), zB_ok (sR' _ _) (decide_eq_true h3), pc_ok (f108_ok ha), trivial⟩) (fun γ => by kernel_rfl)
        · have e : opl a b = ⟨0, 1, 0⟩ := by unfold opl; rw [if_neg h0, if_neg h1, if_pos h2, if_neg h3]
          rw [e]
          exact pure_of Try.func61 rfl 24 [a.v, b.v] (opHead a b ++ [zB (oV a b) true, zB (oU a b) false]) _
            (fun _ => (opHead_ok ha hb h0 h1).append ⟨zB_ok (sR' _ _) (decide_eq_true h2), zB_ok (sR' _ _) (decide_eq_false h3), trivial⟩) (fun γ => by kernel_rfl)
      · have e : opl a b = oP a b := by unfold opl; rw [if_neg h0, if_neg h1, if_neg h2]
        rw [e]
        exact pure_of Try.func61 rfl 24 [a.v, b.v] (opHead a b ++ [zB (oV a b) false, fM a.z b.z, fM (oV a b) (oV a b), fM (o2 a b) (oV a b), fM a.x b.z, fM (o2 a b) (fmul a.x b.z), fM (oU a b) (oU a b), fM (fmul (oU a b) (oU a b)) (oZ a b), fS (fmul (fmul (oU a b) (oU a b)) (oZ a b)) (o3 a b),
              fA (oW a b) (oW a b), fS (fsub (fmul (fmul (oU a b) (oU a b)) (oZ a b)) (o3 a b)) (fadd (oW a b) (oW a b)), fM (oV a b) (oT a b), fS (oW a b) (oT a b), fM (oU a b) (fsub (oW a b) (oT a b)), fM a.y b.z, fM (o3 a b) (fmul a.y b.z),
              fS (fmul (oU a b) (fsub (oW a b) (oT a b))) (fmul (o3 a b) (fmul a.y b.z)), fM (o3 a b) (oZ a b)]) _
          (fun _ => (opHead_ok ha hb h0 h1).append ⟨zB_ok (sR' _ _) (decide_eq_false h2), fM_ok (ltR ha.2.2) (ltR hb.2.2), fM_ok (sR' _ _) (sR' _ _), fM_ok (mR' _ _) (sR' _ _), fM_ok (ltR ha.1) (ltR hb.2.2), fM_ok (mR' _ _) (mR' _ _), fM_ok (sR' _ _) (sR' _ _), fM_ok (mR' _ _) (mR' _ _), fS_ok (fmul_lt _ _) (fmul_lt _ _),
              fA_ok (fmul_lt _ _) (fmul_lt _ _), fS_ok (fsub_lt _ _) (fadd_lt _ _), fM_ok (sR' _ _) (sR' _ _), fS_ok (fmul_lt _ _) (fsub_lt _ _), fM_ok (sR' _ _) (sR' _ _), fM_ok (ltR ha.2.1) (ltR hb.2.2), fM_ok (mR' _ _) (mR' _ _),
              fS_ok (fmul_lt _ _) (fmul_lt _ _), fM_ok (mR' _ _) (mR' _ _), trivial⟩) (fun γ => by kernel_rfl)

end Go.Proofs.Ytildcmggcbdhpaa
