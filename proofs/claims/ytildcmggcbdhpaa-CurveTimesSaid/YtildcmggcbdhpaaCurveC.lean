/- Package curve: twice a point, and sums in the plane. No conditions but that numbers are below the modulus. -/
import Derived.Test.YtildcmggcbdhpaaCurveB
namespace Go.Proofs.Ytildcmggcbdhpaa
open Go.Ex Go.RowKit Lim

def mR (g h a b : Nat) : Rec := mc 104 [PT g, NV a, NV b] (lNi g h) (NV (mm a b))
def aR (g h a b : Nat) : Rec := mc 106 [PT g, NV a, NV b] (lNi g h) (NV (fadd a b))
def sR (g h a b : Nat) : Rec := mc 105 [PT g, NV a, NV b] (lNi g h) (NV (fsub a b))
theorem mR_ok {w : World} {g h a b : Nat} (ha : a < P) (hb : b < P) : (mR g h a b).Ok Try.prog w := mc_ok (f104_ok ha hb)
theorem aR_ok {w : World} {g h a b : Nat} (ha : a < P) (hb : b < P) : (aR g h a b).Ok Try.prog w := mc_ok (f106_ok ha hb)
theorem sR_ok {w : World} {g h a b : Nat} (ha : a < P) (hb : b < P) : (sR g h a b).Ok Try.prog w := mc_ok (f105_ok ha hb)

def dS (x y : Nat) : Nat := fadd (fadd (mm x (mm y y)) (mm x (mm y y))) (fadd (mm x (mm y y)) (mm x (mm y y)))
def dM (x : Nat) : Nat := fadd (fadd (mm x x) (mm x x)) (mm x x)
def dX (x y : Nat) : Nat := fsub (mm (dM x) (dM x)) (fadd (dS x y) (dS x y))
def dQ (y : Nat) : Nat := fadd (fadd (mm (mm y y) (mm y y)) (mm (mm y y) (mm y y))) (fadd (mm (mm y y) (mm y y)) (mm (mm y y) (mm y y)))
def dY (x y : Nat) : Nat := fsub (mm (dM x) (fsub (dS x y) (dX x y))) (fadd (dQ y) (dQ y))
def dZ (y z : Nat) : Nat := fadd (mm y z) (mm y z)

/-- (plane).twice -/
theorem f74_zero {g h x y : Nat} : PureAt (lN g h) 74 [PT g, JV x y 0] (JV 0 0 0) :=
  pureAt_of Try.func74 rfl 16 [(PT g, .at_ 0), (JV x y 0, .no)] (lN g h) [eqB 16 0 0 true] _ rfl (fun _ => ⟨eqB_ok (by decide) (by decide) rfl, trivial⟩) (fun γ => by kernel_rfl)
theorem f74_y {g h x z : Nat} (hz : z < P) (h0 : z ≠ 0) : PureAt (lN g h) 74 [PT g, JV x 0 z] (JV 0 0 0) :=
  pureAt_of Try.func74 rfl 16 [(PT g, .at_ 0), (JV x 0 z, .no)] (lN g h) [eqB 16 z 0 false, eqB 21 0 0 true] _ rfl (fun _ => ⟨eqB_ok (Nat.lt_trans hz P_R) (by decide) (decide_eq_false h0), eqB_ok (by decide) (by decide) rfl, trivial⟩) (fun γ => by kernel_rfl)
theorem f74_ok {g h x y z : Nat} (hx : x < P) (hy : y < P) (hz : z < P) (h0 : z ≠ 0) (h1 : y ≠ 0) : PureAt (lN g h) 74 [PT g, JV x y z] (JV (dX x y) (dY x y) (dZ y z)) :=
  pureAt_of Try.func74 rfl 16 [(PT g, .at_ 0), (JV x y z, .no)] (lN g h) [eqB 16 z 0 false, eqB 21 y 0 false, mR g h y y, mR g h x (mm y y), aR g h (mm x (mm y y)) (mm x (mm y y)),
      aR g h (fadd (mm x (mm y y)) (mm x (mm y y))) (fadd (mm x (mm y y)) (mm x (mm y y))), mR g h x x, aR g h (mm x x) (mm x x), aR g h (fadd (mm x x) (mm x x)) (mm x x),
      mR g h (dM x) (dM x), aR g h (dS x y) (dS x y), sR g h (mm (dM x) (dM x)) (fadd (dS x y) (dS x y)), mR g h (mm y y) (mm y y), aR g h (mm (mm y y) (mm y y)) (mm (mm y y) (mm y y)),
      aR g h (fadd (mm (mm y y) (mm y y)) (mm (mm y y) (mm y y))) (fadd (mm (mm y y) (mm y y)) (mm (mm y y) (mm y y))), sR g h (dS x y) (dX x y), mR g h (dM x) (fsub (dS x y) (dX x y)), aR g h (dQ y) (dQ y),
      sR g h (mm (dM x) (fsub (dS x y) (dX x y))) (fadd (dQ y) (dQ y)), mR g h y z, aR g h (mm y z) (mm y z)] _ rfl
    (fun _ => ⟨eqB_ok (Nat.lt_trans hz P_R) (by decide) (decide_eq_false h0), eqB_ok (Nat.lt_trans hy P_R) (by decide) (decide_eq_false h1), mR_ok hy hy, mR_ok hx (mm_lt _ _), aR_ok (mm_lt _ _) (mm_lt _ _), aR_ok (fadd_lt _ _) (fadd_lt _ _),
      mR_ok hx hx, aR_ok (mm_lt _ _) (mm_lt _ _), aR_ok (fadd_lt _ _) (mm_lt _ _), mR_ok (fadd_lt _ _) (fadd_lt _ _), aR_ok (fadd_lt _ _) (fadd_lt _ _), sR_ok (mm_lt _ _) (fadd_lt _ _), mR_ok (mm_lt _ _) (mm_lt _ _), aR_ok (mm_lt _ _) (mm_lt _ _),
      aR_ok (fadd_lt _ _) (fadd_lt _ _), sR_ok (fadd_lt _ _) (fsub_lt _ _), mR_ok (fadd_lt _ _) (fsub_lt _ _), aR_ok (fadd_lt _ _) (fadd_lt _ _), sR_ok (mm_lt _ _) (fadd_lt _ _), mR_ok hy hz, aR_ok (mm_lt _ _) (mm_lt _ _), trivial⟩) (fun γ => by kernel_rfl)

/-- a point in the plane -/
structure J where
  x : Nat
  y : Nat
  z : Nat
def J.v (p : J) : Value := JV p.x p.y p.z
def J.lt (p : J) : Prop := p.x < P ∧ p.y < P ∧ p.z < P
def dbl (p : J) : J := if p.z = 0 then ⟨0, 0, 0⟩ else if p.y = 0 then ⟨0, 0, 0⟩ else ⟨dX p.x p.y, dY p.x p.y, dZ p.y p.z⟩
theorem dbl_lt (p : J) : (dbl p).lt := by
  unfold dbl
  split
  · exact ⟨P_pos, P_pos, P_pos⟩
  · split
    · exact ⟨P_pos, P_pos, P_pos⟩
    · exact ⟨fsub_lt _ _, fsub_lt _ _, fadd_lt _ _⟩
theorem f74_all {g h : Nat} {p : J} (hp : p.lt) : PureAt (lN g h) 74 [PT g, p.v] (dbl p).v := by
  obtain ⟨x, y, z⟩ := p
  obtain ⟨hx, hy, hz⟩ := hp
  unfold dbl
  by_cases h0 : z = 0
  · subst h0; exact f74_zero
  · by_cases h1 : y = 0
    · subst h1
      simp only [if_neg h0]
      exact f74_y hz h0
    · simp only [if_neg h0, if_neg h1]
      exact f74_ok hx hy hz h0 h1

def pH (a b : J) : Nat := fsub (mm b.x (mm a.z a.z)) (mm a.x (mm b.z b.z))
def pR (a b : J) : Nat := fsub (mm b.y (mm (mm a.z a.z) a.z)) (mm a.y (mm (mm b.z b.z) b.z))
def pV (a b : J) : Nat := mm (mm a.x (mm b.z b.z)) (mm (pH a b) (pH a b))
def pX (a b : J) : Nat := fsub (fsub (mm (pR a b) (pR a b)) (mm (mm (pH a b) (pH a b)) (pH a b))) (fadd (pV a b) (pV a b))
def pY (a b : J) : Nat := fsub (mm (pR a b) (fsub (pV a b) (pX a b))) (mm (mm a.y (mm (mm b.z b.z) b.z)) (mm (mm (pH a b) (pH a b)) (pH a b)))
def pZ (a b : J) : Nat := mm (pH a b) (mm a.z b.z)
def plus (a b : J) : J := if a.z = 0 then b else if b.z = 0 then a else if pH a b = 0 then (if pR a b = 0 then dbl a else ⟨0, 0, 0⟩) else ⟨pX a b, pY a b, pZ a b⟩
theorem plus_lt {a b : J} (ha : a.lt) (hb : b.lt) : (plus a b).lt := by
  unfold plus
  split
  · exact hb
  · split
    · exact ha
    · split
      · split
        · exact dbl_lt a
        · exact ⟨P_pos, P_pos, P_pos⟩
      · exact ⟨fsub_lt _ _, fsub_lt _ _, mm_lt _ _⟩

def headRecs (g h : Nat) (a b : J) : List Rec := [eqB 24 a.z 0 false, eqB 30 b.z 0 false, mR g h a.z a.z, mR g h b.z b.z, mR g h a.x (mm b.z b.z), mR g h b.x (mm a.z a.z), mR g h (mm b.z b.z) b.z, mR g h a.y (mm (mm b.z b.z) b.z),
  mR g h (mm a.z a.z) a.z, mR g h b.y (mm (mm a.z a.z) a.z), sR g h (mm b.x (mm a.z a.z)) (mm a.x (mm b.z b.z)), sR g h (mm b.y (mm (mm a.z a.z) a.z)) (mm a.y (mm (mm b.z b.z) b.z))]
theorem headRecs_ok {w : World} {g h : Nat} {a b : J} (ha : a.lt) (hb : b.lt) (h0 : a.z ≠ 0) (h1 : b.z ≠ 0) : RecsOk w (headRecs g h a b) :=
  ⟨eqB_ok (Nat.lt_trans ha.2.2 P_R) (by decide) (decide_eq_false h0), eqB_ok (Nat.lt_trans hb.2.2 P_R) (by decide) (decide_eq_false h1), mR_ok ha.2.2 ha.2.2, mR_ok hb.2.2 hb.2.2, mR_ok ha.1 (mm_lt _ _), mR_ok hb.1 (mm_lt _ _), mR_ok (mm_lt _ _) hb.2.2, mR_ok ha.2.1 (mm_lt _ _),
    mR_ok (mm_lt _ _) ha.2.2, mR_ok hb.2.1 (mm_lt _ _), sR_ok (mm_lt _ _) (mm_lt _ _), sR_ok (mm_lt _ _) (mm_lt _ _), trivial⟩

/-- (plane).plus -/
theorem f58_ok {g h : Nat} {a b : J} (ha : a.lt) (hb : b.lt) : PureAt (lN g h) 58 [PT g, a.v, b.v] (plus a b).v := by
  have hlt := P_R
  by_cases h0 : a.z = 0
  · have e : plus a b = b := by unfold plus; rw [if_pos h0]
    rw [e]
    exact pureAt_of Try.func58 rfl 24 [(PT g, .at_ 0), (a.v, .no), (b.v, .no)] (lN g h) [eqB 24 a.z 0 true] _ rfl (fun _ => ⟨eqB_ok (Nat.lt_trans ha.2.2 P_R) (by decide) (decide_eq_true h0), trivial⟩) (fun γ => by kernel_rfl)
  · by_cases h1 : b.z = 0
    · have e : plus a b = a := by unfold plus; rw [if_neg h0, if_pos h1]
      rw [e]
      exact pureAt_of Try.func58 rfl 24 [(PT g, .at_ 0), (a.v, .no), (b.v, .no)] (lN g h) [eqB 24 a.z 0 false, eqB 30 b.z 0 true] _ rfl (fun _ => ⟨eqB_ok (Nat.lt_trans ha.2.2 P_R) (by decide) (decide_eq_false h0), eqB_ok (Nat.lt_trans hb.2.2 P_R) (by decide) (decide_eq_true h1), trivial⟩) (fun γ => by kernel_rfl)
    · by_cases h2 : pH a b = 0
      · by_cases h3 : pR a b = 0
        · have e : plus a b = dbl a := by unfold plus; rw [if_neg h0, if_neg h1, if_pos h2, if_pos h3]
          rw [e]
          exact pureAt_of Try.func58 rfl 24 [(PT g, .at_ 0), (a.v, .no), (b.v, .no)] (lN g h) (headRecs g h a b ++ [eqB 83 (pH a b) 0 true, eqB 87 (pR a b) 0 true, mc 74 [PT g, a.v] (lNi g h) (JV (dbl a).x (dbl a).y (dbl a).z)]) _ rfl
            (fun _ => (headRecs_ok ha hb h0 h1).append ⟨eqB_ok (Nat.lt_trans (fsub_lt _ _) P_R) (by decide) (decide_eq_true h2), eqB_ok (Nat.lt_trans (fsub_lt _ _) P_R) (by decide) (decide_eq_true h3), mc_ok (f74_all ha), trivial⟩) (fun γ => by kernel_rfl)
        · have e : plus a b = ⟨0, 0, 0⟩ := by unfold plus; rw [if_neg h0, if_neg h1, if_pos h2, if_neg h3]
          rw [e]
          exact pureAt_of Try.func58 rfl 24 [(PT g, .at_ 0), (a.v, .no), (b.v, .no)] (lN g h) (headRecs g h a b ++ [eqB 83 (pH a b) 0 true, eqB 87 (pR a b) 0 false, eqB 95 (pH a b) 0 true]) _ rfl
            (fun _ => (headRecs_ok ha hb h0 h1).append ⟨eqB_ok (Nat.lt_trans (fsub_lt _ _) P_R) (by decide) (decide_eq_true h2), eqB_ok (Nat.lt_trans (fsub_lt _ _) P_R) (by decide) (decide_eq_false h3), eqB_ok (Nat.lt_trans (fsub_lt _ _) P_R) (by decide) (decide_eq_true h2), trivial⟩) (fun γ => by kernel_rfl)
      · have e : plus a b = ⟨pX a b, pY a b, pZ a b⟩ := by unfold plus; rw [if_neg h0, if_neg h1, if_neg h2]
        rw [e]
        exact pureAt_of Try.func58 rfl 24 [(PT g, .at_ 0), (a.v, .no), (b.v, .no)] (lN g h) (headRecs g h a b ++ [eqB 83 (pH a b) 0 false, eqB 95 (pH a b) 0 false, mR g h (pH a b) (pH a b), mR g h (mm (pH a b) (pH a b)) (pH a b), mR g h (mm a.x (mm b.z b.z)) (mm (pH a b) (pH a b)),
              mR g h (pR a b) (pR a b), sR g h (mm (pR a b) (pR a b)) (mm (mm (pH a b) (pH a b)) (pH a b)), aR g h (pV a b) (pV a b), sR g h (fsub (mm (pR a b) (pR a b)) (mm (mm (pH a b) (pH a b)) (pH a b))) (fadd (pV a b) (pV a b)),
              sR g h (pV a b) (pX a b), mR g h (pR a b) (fsub (pV a b) (pX a b)), mR g h (mm a.y (mm (mm b.z b.z) b.z)) (mm (mm (pH a b) (pH a b)) (pH a b)), sR g h (mm (pR a b) (fsub (pV a b) (pX a b))) (mm (mm a.y (mm (mm b.z b.z) b.z)) (mm (mm (pH a b) (pH a b)) (pH a b))),
              mR g h a.z b.z, mR g h (pH a b) (mm a.z b.z)]) _ rfl
          (fun _ => (headRecs_ok ha hb h0 h1).append ⟨eqB_ok (Nat.lt_trans (fsub_lt _ _) P_R) (by decide) (decide_eq_false h2), eqB_ok (Nat.lt_trans (fsub_lt _ _) P_R) (by decide) (decide_eq_false h2), mR_ok (fsub_lt _ _) (fsub_lt _ _), mR_ok (mm_lt _ _) (fsub_lt _ _), mR_ok (mm_lt _ _) (mm_lt _ _),
              mR_ok (fsub_lt _ _) (fsub_lt _ _), sR_ok (mm_lt _ _) (mm_lt _ _), aR_ok (mm_lt _ _) (mm_lt _ _), sR_ok (fsub_lt _ _) (fadd_lt _ _), sR_ok (mm_lt _ _) (fsub_lt _ _), mR_ok (fsub_lt _ _) (fsub_lt _ _), mR_ok (mm_lt _ _) (mm_lt _ _), sR_ok (mm_lt _ _) (mm_lt _ _),
              mR_ok ha.2.2 hb.2.2, mR_ok (fsub_lt _ _) (mm_lt _ _), trivial⟩) (fun γ => by kernel_rfl)

end Go.Proofs.Ytildcmggcbdhpaa
