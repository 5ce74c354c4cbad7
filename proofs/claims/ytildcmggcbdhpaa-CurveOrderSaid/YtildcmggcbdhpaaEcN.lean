/- Plain: the complete sum is the sum; sums of points are grouped as you like. No program in sight. -/
import Derived.Test.YtildcmggcbdhpaaEcM
namespace Ec
set_option linter.unusedSectionVars false
variable {n : Nat} [NeZero n] {inv : Fin n → Fin n}

theorem rcb_x (A B : C3 (Fin n)) : (rcbF A B).x = (A.x * B.y + B.x * A.y) * (A.y * B.y + -(21 * (A.z * B.z))) + -(21 * ((A.y * B.z + B.y * A.z) * (A.x * B.z + B.x * A.z))) := rfl
theorem rcb_y (A B : C3 (Fin n)) : (rcbF A B).y = (A.y * B.y + 21 * (A.z * B.z)) * (A.y * B.y + -(21 * (A.z * B.z))) + 63 * (A.x * B.x * (A.x * B.z + B.x * A.z)) := rfl
theorem rcb_z (A B : C3 (Fin n)) : (rcbF A B).z = (A.y * B.z + B.y * A.z) * (A.y * B.y + 21 * (A.z * B.z)) + 3 * (A.x * B.x * (A.x * B.y + B.x * A.y)) := rfl

theorem negSq (y : Fin n) : (-y) * (-y) = y * y := by grind
theorem negAdd (a b : Fin n) : -(a + b) = -b - a := by grind

theorem finZ {m x1 y1 x2 D Za : Fin n} (c : m * D * (x1 * (D * D) - (m * D * (m * D) - (x1 + x2) * (D * D))) - y1 * (D * D * D) = Za) : Za = (m * (x1 - (m * m - x1 - x2)) - y1) * (D * (D * D)) := by rw [← c]; grind
theorem finX {l x1 x2 D Xa Za : Fin n} (c : Xa * (D * D) = (l * D * (l * D) - (x1 + x2) * (D * D)) * Za) : Xa * (D * D) = (l * l - x1 - x2) * Za * (D * D) := by rw [c]; grind
theorem finY {l x1 y1 x2 D Ya Za : Fin n} (c : Ya * (D * D * D) = (l * D * (x1 * (D * D) - (l * D * (l * D) - (x1 + x2) * (D * D))) - y1 * (D * D * D)) * Za) : Ya * (D * D * D) = (l * (x1 - (l * l - x1 - x2)) - y1) * Za * (D * D * D) := by rw [c]; grind
theorem finS {X Z Xa Za s t : Fin n} (h1 : X = Xa * s) (h2 : Z = Za * s) (h3 : Xa = t * Za) : X = t * Z := by rw [h1, h2, h3]; grind

/-- what X : Y : Z stands for -/
def RP (c : C3 (Fin n)) : Pt n → Prop
  | none => c.x = 0 ∧ c.z = 0 ∧ c.y ≠ 0
  | some (a, b) => c.z ≠ 0 ∧ c.x = a * c.z ∧ c.y = b * c.z

theorem RP_uniq (h : Inv inv) {c d : C3 (Fin n)} {A B : Pt n} (hA : RP c A) (hB : RP d B) (e1 : c.x * d.z + -(d.x * c.z) = 0) (e2 : c.y * d.z + -(d.y * c.z) = 0) : A = B := by
  cases A with
  | none =>
    obtain ⟨a1, a2, a3⟩ := hA
    cases B with
    | none => rfl
    | some q =>
      obtain ⟨b1, b2, b3⟩ := hB
      exact absurd (show c.y * d.z = 0 by rw [a2] at e2; grind) (h.dom a3 b1)
  | some p =>
    obtain ⟨x1, y1⟩ := p
    obtain ⟨a1, a2, a3⟩ := hA
    cases B with
    | none =>
      obtain ⟨b1, b2, b3⟩ := hB
      exact absurd (show d.y * c.z = 0 by rw [b2] at e2; grind) (h.dom b3 a1)
    | some q =>
      obtain ⟨x2, y2⟩ := q
      obtain ⟨b1, b2, b3⟩ := hB
      have hz := h.dom a1 b1
      have ex : x1 = x2 := by apply h.can hz; rw [a2, b2] at e1; grind
      have ey : y1 = y2 := by apply h.can hz; rw [a3, b3] at e2; grind
      rw [ex, ey]

theorem RP_add (h : Curve inv) {c d : C3 (Fin n)} {A B : Pt n} (hA : On A) (hB : On B) (rA : RP c A) (rB : RP d B) : RP (rcbF c d) (add inv A B) := by
  have hI := h.toInv
  obtain ⟨cx, cy, cz⟩ := c
  obtain ⟨dx, dy, dz⟩ := d
  cases A with
  | none =>
    obtain ⟨a1, a2, a3⟩ := rA
    dsimp only at a1 a2 a3
    subst a1 a2
    cases B with
    | none =>
      obtain ⟨b1, b2, b3⟩ := rB
      dsimp only at b1 b2 b3
      subst b1 b2
      refine ⟨by rw [rcb_x]; grind, by rw [rcb_z]; grind, ?_⟩
      rw [rcb_y]
      have := hI.dom (hI.dom a3 b3) (hI.dom a3 b3)
      intro e
      exact this (by grind)
    | some q =>
      obtain ⟨x, y⟩ := q
      obtain ⟨b1, b2, b3⟩ := rB
      dsimp only at b1 b2 b3
      subst b2 b3
      have hy := h.y0 (x := x) (y := y) hB
      refine ⟨?_, by rw [rcb_x, rcb_z]; grind, by rw [rcb_y, rcb_z]; grind⟩
      rw [rcb_z]
      have := hI.dom (hI.dom a3 b1) (hI.dom a3 (hI.dom hy b1))
      intro e
      exact this (by grind)
  | some p =>
    obtain ⟨x1, y1⟩ := p
    obtain ⟨a1, a2, a3⟩ := rA
    dsimp only at a1 a2 a3
    subst a2 a3
    have h1 : y1 * y1 = x1 * x1 * x1 + 7 := hA
    have hy1 := h.y0 h1
    cases B with
    | none =>
      obtain ⟨b1, b2, b3⟩ := rB
      dsimp only at b1 b2 b3
      subst b1 b2
      refine ⟨?_, by rw [rcb_x, rcb_z]; grind, by rw [rcb_y, rcb_z]; grind⟩
      rw [rcb_z]
      have := hI.dom (hI.dom b3 a1) (hI.dom b3 (hI.dom hy1 a1))
      intro e
      exact this (by grind)
    | some q =>
      obtain ⟨x2, y2⟩ := q
      obtain ⟨b1, b2, b3⟩ := rB
      dsimp only at b1 b2 b3
      subst b2 b3
      have h2 : y2 * y2 = x2 * x2 * x2 + 7 := hB
      have hs : cz * cz * (dz * dz) ≠ 0 := hI.dom (hI.dom a1 a1) (hI.dom b1 b1)
      have eX : (rcbF ⟨x1 * cz, y1 * cz, cz⟩ ⟨x2 * dz, y2 * dz, dz⟩).x = ((x1 * y2 + x2 * y1) * (y1 * y2 - 21) - 21 * ((y1 + y2) * (x1 + x2))) * (cz * cz * (dz * dz)) := by rw [rcb_x]; grind
      have eY : (rcbF ⟨x1 * cz, y1 * cz, cz⟩ ⟨x2 * dz, y2 * dz, dz⟩).y = ((y1 * y2 + 21) * (y1 * y2 - 21) + 63 * (x1 * x2 * (x1 + x2))) * (cz * cz * (dz * dz)) := by rw [rcb_y]; grind
      have eZ : (rcbF ⟨x1 * cz, y1 * cz, cz⟩ ⟨x2 * dz, y2 * dz, dz⟩).z = ((y1 + y2) * (y1 * y2 + 21) + 3 * (x1 * x2) * (x1 * y2 + x2 * y1)) * (cz * cz * (dz * dz)) := by rw [rcb_z]; grind
      generalize cz * cz * (dz * dz) = s at *
      generalize rcbF ⟨x1 * cz, y1 * cz, cz⟩ ⟨x2 * dz, y2 * dz, dz⟩ = r at *
      obtain ⟨X, Y, Z⟩ := r
      dsimp only at eX eY eZ
      by_cases hx : x2 = x1
      · subst hx
        by_cases hy : y2 = y1
        · subst hy
          simp only [add, dbl, if_neg hy1, if_true]
          have hl := tang_eq hI (x := x2) hy1
          unfold third
          generalize tang inv x2 y2 = l at *
          refine ⟨?_, ?_, ?_⟩
          · show Z ≠ 0
            have h8 := hI.dom (hI.dom (hI.dom hI.two (hI.dom hI.two hI.two)) (hI.dom hy1 (hI.dom hy1 hy1))) hs
            intro e
            exact h8 (by grind)
          · show X = _ * Z
            rw [eX, eZ]; grind
          · show Y = _ * Z
            rw [eY, eZ]; grind
        · have hsum : y2 = -y1 := by
            by_cases h0 : y2 + y1 = 0
            · grind
            · exact absurd (show (y2 - y1) * (y2 + y1) = 0 by grind) (hI.dom (fun e => hy (by grind)) h0)
          simp only [add, if_neg hy, if_true]
          refine ⟨?_, ?_, ?_⟩
          · show X = 0
            rw [eX, hsum]; grind
          · show Z = 0
            rw [eZ, hsum]; grind
          · show Y ≠ 0
            have hl := tang_eq hI (x := x2) hy1
            have hon := dbl_on h h1 hl
            generalize tang inv x2 y1 = l at *
            have h3 := h.y0 hon
            have h8 := hI.dom (hI.dom (hI.dom (hI.dom hI.two (hI.dom hI.two hI.two)) (hI.dom hy1 (hI.dom hy1 hy1))) h3) hs
            intro e
            apply h8
            rw [eY, hsum] at e
            grind
      · simp only [add, if_neg hx]
        have hd : x2 - x1 ≠ 0 := fun e => hx (by grind)
        have hl := slope_eq hI (y1 := y1) (y2 := y2) hx
        have hm := slope_eq hI (y1 := y1) (y2 := -y2) hx
        have hon := third_on h h1 (show (-y2) * (-y2) = x2 * x2 * x2 + 7 by rw [negSq]; exact h2) hx hm
        have cz' := chord_z h1 h2 rfl rfl
        have cx' := chord_x h1 h2 rfl rfl
        have cy' := chord_y h1 h2 rfl rfl
        unfold third
        generalize slope inv x1 y1 x2 y2 = l at *
        generalize slope inv x1 y1 x2 (-y2) = m at *
        have h4 := h.y0 hon
        have em : -(y1 + y2) = m * (x2 - x1) := by rw [hm]; exact negAdd y1 y2
        rw [em] at cz'
        rw [← hl] at cx' cy'
        have hZ : (y1 + y2) * (y1 * y2 + 21) + 3 * (x1 * x2) * (x1 * y2 + x2 * y1) ≠ 0 := by
          rw [finZ cz']
          exact hI.dom h4 (hI.dom hd (hI.dom hd hd))
        refine ⟨?_, ?_, ?_⟩
        · show Z ≠ 0
          rw [eZ]; exact hI.dom hZ hs
        · exact finS eX eZ (hI.can (hI.dom hd hd) (finX cx'))
        · exact finS eY eZ (hI.can (hI.dom (hI.dom hd hd) hd) (finY cy'))

/-- sums are grouped as you like -/
theorem add_assoc (h : Curve inv) {A B C : Pt n} (hA : On A) (hB : On B) (hC : On C) : add inv (add inv A B) C = add inv A (add inv B C) := by
  cases A with
  | none => rfl
  | some p =>
    cases B with
    | none => cases C <;> rfl
    | some q =>
      cases C with
      | none =>
        have : ∀ D : Pt n, add inv D none = D := fun D => by cases D <;> rfl
        rw [this, this]
      | some r =>
        obtain ⟨x1, y1⟩ := p
        obtain ⟨x2, y2⟩ := q
        obtain ⟨x3, y3⟩ := r
        have one : ∀ x y : Fin n, RP ⟨x, y, Fin.ofNat n 1⟩ (some (x, y)) := fun x y => by
          have e1 : Fin.ofNat n 1 = 1 := rfl
          have n1 : (1 : Fin n) ≠ 0 := fun e => h.two (by grind)
          refine ⟨by rw [e1]; exact n1, ?_, ?_⟩ <;> (rw [e1]; dsimp only; grind)
        have r1 := one x1 y1
        have r2 := one x2 y2
        have r3 := one x3 y3
        have hAB := add_on h hA hB
        have hBC := add_on h hB hC
        have L := RP_add h hAB hC (RP_add h hA hB r1 r2) r3
        have M := RP_add h hA hBC r1 (RP_add h hB hC r2 r3)
        have e := assoc_raw (show y1 * y1 = x1 * x1 * x1 + Fin.ofNat n 7 from hA) (show y2 * y2 = x2 * x2 * x2 + Fin.ofNat n 7 from hB) (show y3 * y3 = x3 * x3 * x3 + Fin.ofNat n 7 from hC)
        exact RP_uniq h.toInv L M e.1 e.2

/-- whichever is first -/
theorem add_comm (h : Inv inv) (A B : Pt n) : add inv A B = add inv B A := by
  cases A with
  | none => cases B <;> rfl
  | some p =>
    cases B with
    | none => rfl
    | some q =>
      obtain ⟨x1, y1⟩ := p
      obtain ⟨x2, y2⟩ := q
      simp only [add]
      by_cases hx : x2 = x1
      · subst hx
        by_cases hy : y2 = y1
        · subst hy; rfl
        · rw [if_pos rfl, if_neg hy, if_pos rfl, if_neg (fun e => hy e.symm)]
      · rw [if_neg hx, if_neg (fun e => hx e.symm)]
        have h1 := slope_eq h (y1 := y1) (y2 := y2) hx
        have h2 := slope_eq h (x1 := x2) (y1 := y2) (x2 := x1) (y2 := y1) (fun e => hx e.symm)
        have e : slope inv x1 y1 x2 y2 = slope inv x2 y2 x1 y1 := by
          apply h.can (c := x2 - x1) (fun e => hx (by grind))
          rw [h1]; grind
        rw [e]
        generalize slope inv x2 y2 x1 y1 = l at *
        unfold third
        congr 1
        refine Prod.ext ?_ ?_
        · dsimp only; grind
        · dsimp only; grind

end Ec
