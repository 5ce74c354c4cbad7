/- Plain: the sum of points of y y = x x x + 7 is a group's, given that no point has y = 0. No program in sight. -/
import Derived.Test.YtildcmggcbdhpaaEcA
import Derived.Test.YtildcmggcbdhpaaEcL
namespace Ec
set_option linter.unusedSectionVars false
variable {n : Nat} [NeZero n] {inv : Fin n → Fin n}

theorem chord_z {x1 y1 x2 y2 N D : Fin n} (h1 : y1 * y1 = x1 * x1 * x1 + 7) (h2 : y2 * y2 = x2 * x2 * x2 + 7) (hN : N = -(y1 + y2)) (hD : D = x2 - x1) :
    N * (x1 * (D * D) - (N * N - (x1 + x2) * (D * D))) - y1 * (D * D * D) = (y1 + y2) * (y1 * y2 + 21) + 3 * (x1 * x2) * (x1 * y2 + x2 * y1) := by
  subst hN hD; grind
theorem chord_x {x1 y1 x2 y2 N D : Fin n} (h1 : y1 * y1 = x1 * x1 * x1 + 7) (h2 : y2 * y2 = x2 * x2 * x2 + 7) (hN : N = y2 - y1) (hD : D = x2 - x1) :
    ((x1 * y2 + x2 * y1) * (y1 * y2 - 21) - 21 * ((y1 + y2) * (x1 + x2))) * (D * D) = (N * N - (x1 + x2) * (D * D)) * ((y1 + y2) * (y1 * y2 + 21) + 3 * (x1 * x2) * (x1 * y2 + x2 * y1)) := by
  subst hN hD; grind
theorem chord_y {x1 y1 x2 y2 N D : Fin n} (h1 : y1 * y1 = x1 * x1 * x1 + 7) (h2 : y2 * y2 = x2 * x2 * x2 + 7) (hN : N = y2 - y1) (hD : D = x2 - x1) :
    ((y1 * y2 + 21) * (y1 * y2 - 21) + 63 * (x1 * x2 * (x1 + x2))) * (D * D * D) = (N * (x1 * (D * D) - (N * N - (x1 + x2) * (D * D))) - y1 * (D * D * D)) * ((y1 + y2) * (y1 * y2 + 21) + 3 * (x1 * x2) * (x1 * y2 + x2 * y1)) := by
  subst hN hD; grind

/-- a point of the curve -/
def On : Pt n → Prop
  | none => True
  | some (x, y) => y * y = x * x * x + 7

structure Curve (inv : Fin n → Fin n) : Prop extends Inv inv where
  nz : ∀ x : Fin n, x * x * x + 7 ≠ 0

theorem Curve.y0 (h : Curve inv) {x y : Fin n} (ho : y * y = x * x * x + 7) : y ≠ 0 := fun e => h.nz x (by rw [← ho, e]; grind)

/-- a chord's third point lies on the curve -/
theorem third_on (h : Curve inv) {x1 y1 x2 y2 l : Fin n} (h1 : y1 * y1 = x1 * x1 * x1 + 7) (h2 : y2 * y2 = x2 * x2 * x2 + 7) (hne : x2 ≠ x1) (hl : l * (x2 - x1) = y2 - y1) : On (some (third l x1 y1 x2)) := by
  have hd : x2 - x1 ≠ 0 := fun e => hne (by grind)
  show (l * (x1 - (l * l - x1 - x2)) - y1) * (l * (x1 - (l * l - x1 - x2)) - y1) = (l * l - x1 - x2) * (l * l - x1 - x2) * (l * l - x1 - x2) + 7
  apply h.can hd
  grind
theorem dbl_on (h : Curve inv) {x1 y1 l : Fin n} (h1 : y1 * y1 = x1 * x1 * x1 + 7) (hl : l * (2 * y1) = 3 * x1 * x1) : On (some (third l x1 y1 x1)) := by
  have hy := h.y0 h1
  show (l * (x1 - (l * l - x1 - x1)) - y1) * (l * (x1 - (l * l - x1 - x1)) - y1) = (l * l - x1 - x1) * (l * l - x1 - x1) * (l * l - x1 - x1) + 7
  grind

theorem add_on (h : Curve inv) {A B : Pt n} (hA : On A) (hB : On B) : On (add inv A B) := by
  cases A with
  | none => exact hB
  | some p =>
    cases B with
    | none => exact hA
    | some q =>
      obtain ⟨x1, y1⟩ := p
      obtain ⟨x2, y2⟩ := q
      have h1 : y1 * y1 = x1 * x1 * x1 + 7 := hA
      have h2 : y2 * y2 = x2 * x2 * x2 + 7 := hB
      simp only [add]
      split
      · split
        · simp only [dbl, if_neg (h.y0 h1)]
          exact dbl_on h h1 (tang_eq h.toInv (h.y0 h1))
        · trivial
      · rename_i hne
        exact third_on h h1 h2 hne (slope_eq h.toInv hne)

end Ec
