/- Plain: sums of points, and what a point with a denominator stands for. Over the numbers mod n, given inverses. No program in sight. -/
import Derived.Test.YtildcmggcbdhpaaLim
namespace Ec

variable {n : Nat} [NeZero n]

/-- a point: none is the point at infinity -/
abbrev Pt (n : Nat) : Type := Option (Fin n × Fin n)

/-- the slope of the line through both; of the tangent -/
def slope (inv : Fin n → Fin n) (x1 y1 x2 y2 : Fin n) : Fin n := (y2 - y1) * inv (x2 - x1)
def tang (inv : Fin n → Fin n) (x y : Fin n) : Fin n := (3 * x * x) * inv (2 * y)
def third (l x1 y1 x2 : Fin n) : Fin n × Fin n := (l * l - x1 - x2, l * (x1 - (l * l - x1 - x2)) - y1)

/-- a point twice -/
def dbl (inv : Fin n → Fin n) : Pt n → Pt n
  | none => none
  | some (x, y) => if y = 0 then none else some (third (tang inv x y) x y x)

/-- a sum -/
def add (inv : Fin n → Fin n) : Pt n → Pt n → Pt n
  | none, b => b
  | a, none => a
  | some (x1, y1), some (x2, y2) => if x2 = x1 then (if y2 = y1 then dbl inv (some (x1, y1)) else none) else some (third (slope inv x1 y1 x2 y2) x1 y1 x2)

structure Inv (inv : Fin n → Fin n) : Prop where
  inv : ∀ a, a ≠ 0 → a * inv a = 1
  two : (2 : Fin n) ≠ 0

theorem Inv.dom {inv : Fin n → Fin n} (h : Inv inv) {a b : Fin n} (ha : a ≠ 0) (hb : b ≠ 0) : a * b ≠ 0 := fun h0 => by
  have h1 := h.inv a ha
  have h2 : b = 0 := by grind
  exact hb h2
theorem Inv.can {inv : Fin n → Fin n} (h : Inv inv) {a b c : Fin n} (hc : c ≠ 0) (e : a * c = b * c) : a = b := by
  have h1 := h.inv c hc
  grind

/-- X / Z^2, Y / Z^3 -/
def RJ (x y z : Fin n) : Pt n → Prop
  | none => z = 0
  | some (a, b) => z ≠ 0 ∧ x = a * z * z ∧ y = b * z * z * z
/-- X / Z, Y / Z -/
def RO (x y z : Fin n) : Pt n → Prop
  | none => z = 0
  | some (a, b) => z ≠ 0 ∧ x = a * z ∧ y = b * z

variable {inv : Fin n → Fin n}

theorem tang_eq (h : Inv inv) {x y : Fin n} (hy : y ≠ 0) : tang inv x y * (2 * y) = 3 * x * x := by
  have h1 := h.inv (2 * y) (h.dom h.two hy)
  unfold tang
  grind
theorem slope_eq (h : Inv inv) {x1 y1 x2 y2 : Fin n} (hx : x2 ≠ x1) : slope inv x1 y1 x2 y2 * (x2 - x1) = y2 - y1 := by
  have h1 := h.inv (x2 - x1) (fun e => hx (by grind))
  unfold slope
  grind

/-- twice, of X / Z^2, Y / Z^3 -/
theorem RJ_dbl (h : Inv inv) {x y z : Fin n} {A : Pt n} (hA : RJ x y z A) :
    (z = 0 → dbl inv A = none) ∧ (z ≠ 0 → y = 0 → dbl inv A = none) ∧
      (z ≠ 0 → y ≠ 0 → ∀ s m X Y Z : Fin n, s = 4 * (x * (y * y)) → m = 3 * (x * x) → X = m * m - (s + s) → Y = m * (s - X) - 8 * ((y * y) * (y * y)) → Z = y * z + y * z → RJ X Y Z (dbl inv A)) := by
  refine ⟨fun hz => ?_, fun hz hy => ?_, fun hz hy s m X Y Z hs hm hX hY hZ => ?_⟩
  · cases A with
    | none => rfl
    | some p => exact absurd hz hA.1
  · cases A with
    | none => rfl
    | some p =>
      obtain ⟨a, b⟩ := p
      obtain ⟨_, _, e⟩ := hA
      have hb : b = 0 := by
        by_cases hb : b = 0
        · exact hb
        · exact absurd (e ▸ hy) (h.dom (h.dom (h.dom hb hz) hz) hz)
      simp [dbl, hb]
  · cases A with
    | none => exact absurd hA hz
    | some p =>
      obtain ⟨a, b⟩ := p
      obtain ⟨_, ex, ey⟩ := hA
      have hb : b ≠ 0 := fun e => hy (by rw [ey, e]; grind)
      have ht := tang_eq h (x := a) hb
      simp only [dbl, if_neg hb]
      unfold third
      generalize tang inv a b = l at *
      refine ⟨?_, ?_, ?_⟩
      · rw [hZ]
        have := h.dom h.two (h.dom hy hz)
        intro e
        exact this (by grind)
      · subst hX hm hs hZ ex ey
        grind
      · subst hY hX hm hs hZ ex ey
        grind

theorem addSub (a b : Fin n) : b = a + (b - a) := by grind

/-- a sum, of X / Z^2, Y / Z^3 -/
theorem RJ_add (h : Inv inv) {x1 y1 z1 x2 y2 z2 : Fin n} {A B : Pt n} (hA : RJ x1 y1 z1 A) (hB : RJ x2 y2 z2 B) (hz1 : z1 ≠ 0) (hz2 : z2 ≠ 0) {H r : Fin n} (hH : H = x2 * (z1 * z1) - x1 * (z2 * z2)) (hr : r = y2 * (z1 * z1 * z1) - y1 * (z2 * z2 * z2)) :
    (H = 0 → r = 0 → add inv A B = dbl inv A) ∧ (H = 0 → r ≠ 0 → add inv A B = none) ∧
      (H ≠ 0 → ∀ v X Y Z : Fin n, v = x1 * (z2 * z2) * (H * H) → X = r * r - H * H * H - (v + v) → Y = r * (v - X) - y1 * (z2 * z2 * z2) * (H * H * H) → Z = H * (z1 * z2) → RJ X Y Z (add inv A B)) := by
  cases A with
  | none => exact absurd hA hz1
  | some p =>
    cases B with
    | none => exact absurd hB hz2
    | some q =>
      obtain ⟨a1, b1⟩ := p
      obtain ⟨a2, b2⟩ := q
      obtain ⟨_, ex1, ey1⟩ := hA
      obtain ⟨_, ex2, ey2⟩ := hB
      have hzz : z1 * z1 * (z2 * z2) ≠ 0 := h.dom (h.dom hz1 hz1) (h.dom hz2 hz2)
      have hzzz : z1 * z1 * z1 * (z2 * z2 * z2) ≠ 0 := h.dom (h.dom (h.dom hz1 hz1) hz1) (h.dom (h.dom hz2 hz2) hz2)
      have eH : H = (a2 - a1) * (z1 * z1 * (z2 * z2)) := by rw [hH, ex1, ex2]; grind
      have er : r = (b2 - b1) * (z1 * z1 * z1 * (z2 * z2 * z2)) := by rw [hr, ey1, ey2]; grind
      have ha : H = 0 ↔ a2 = a1 := by
        constructor
        · intro e
          by_cases hd : a2 - a1 = 0
          · grind
          · exact absurd (eH ▸ e) (h.dom hd hzz)
        · rintro rfl; rw [eH]; grind
      have hb : r = 0 ↔ b2 = b1 := by
        constructor
        · intro e
          by_cases hd : b2 - b1 = 0
          · grind
          · exact absurd (er ▸ e) (h.dom hd hzzz)
        · rintro rfl; rw [er]; grind
      refine ⟨fun h1 h2 => ?_, fun h1 h2 => ?_, fun h1 v X Y Z hv hX hY hZ => ?_⟩
      · rw [ha] at h1
        rw [hb] at h2
        simp [add, h1, h2]
      · rw [ha] at h1
        have h2' : ¬ b2 = b1 := fun e => h2 (hb.2 e)
        simp [add, h1, h2']
      · have h1' : ¬ a2 = a1 := fun e => h1 (ha.2 e)
        have hs := slope_eq h (y1 := b1) (y2 := b2) h1'
        simp only [add, if_neg h1']
        unfold third
        generalize slope inv a1 b1 a2 b2 = l at *
        have eb : b2 = b1 + l * (a2 - a1) := by rw [hs]; exact addSub b1 b2
        refine ⟨?_, ?_, ?_⟩
        · rw [hZ]; exact h.dom h1 (h.dom hz1 hz2)
        · rw [hX, hv, hZ, er, eH, ex1, eb]
          grind
        · rw [hY, hX, hv, hZ, er, eH, ex1, ey1, eb]
          grind

/-- twice, of X / Z, Y / Z -/
theorem RO_dbl (h : Inv inv) {x y z : Fin n} {A : Pt n} (hA : RO x y z A) :
    (z = 0 → dbl inv A = none) ∧ (z ≠ 0 → y = 0 → dbl inv A = none) ∧
      (z ≠ 0 → y ≠ 0 → ∀ w s b4 H X Y Z : Fin n, w = 3 * (x * x) → s = y * z → b4 = 4 * (x * y * s) → H = w * w - (b4 + b4) → X = H * s + H * s → Y = w * (b4 - H) - 8 * ((y * s) * (y * s)) → Z = 8 * (s * s * s) → RO X Y Z (dbl inv A)) := by
  refine ⟨fun hz => ?_, fun hz hy => ?_, fun hz hy w s b4 H X Y Z hw hs hb4 hH hX hY hZ => ?_⟩
  · cases A with
    | none => rfl
    | some p => exact absurd hz hA.1
  · cases A with
    | none => rfl
    | some p =>
      obtain ⟨a, b⟩ := p
      obtain ⟨_, _, e⟩ := hA
      have hb : b = 0 := by
        by_cases hb : b = 0
        · exact hb
        · exact absurd (e ▸ hy) (h.dom hb hz)
      simp [dbl, hb]
  · cases A with
    | none => exact absurd hA hz
    | some p =>
      obtain ⟨a, b⟩ := p
      obtain ⟨_, ex, ey⟩ := hA
      have hb : b ≠ 0 := fun e => hy (by rw [ey, e]; grind)
      have ht := tang_eq h (x := a) hb
      simp only [dbl, if_neg hb]
      unfold third
      generalize tang inv a b = l at *
      have hsn : s ≠ 0 := by rw [hs]; exact h.dom hy hz
      refine ⟨?_, ?_, ?_⟩
      · rw [hZ]
        have := h.dom h.two (h.dom h.two (h.dom h.two (h.dom (h.dom hsn hsn) hsn)))
        intro e
        exact this (by grind)
      · subst hX hH hb4 hw hZ hs ex ey
        grind
      · subst hY hH hb4 hw hZ hs ex ey
        grind

/-- a sum, of X / Z, Y / Z -/
theorem RO_add (h : Inv inv) {x1 y1 z1 x2 y2 z2 : Fin n} {A B : Pt n} (hA : RO x1 y1 z1 A) (hB : RO x2 y2 z2 B) (hz1 : z1 ≠ 0) (hz2 : z2 ≠ 0) {u v : Fin n} (hu : u = y2 * z1 - y1 * z2) (hv : v = x2 * z1 - x1 * z2) :
    (v = 0 → u = 0 → add inv A B = dbl inv A) ∧ (v = 0 → u ≠ 0 → add inv A B = none) ∧
      (v ≠ 0 → ∀ w t X Y Z : Fin n, w = v * v * (x1 * z2) → t = u * u * (z1 * z2) - v * v * v - (w + w) → X = v * t → Y = u * (w - t) - v * v * v * (y1 * z2) → Z = v * v * v * (z1 * z2) → RO X Y Z (add inv A B)) := by
  cases A with
  | none => exact absurd hA hz1
  | some p =>
    cases B with
    | none => exact absurd hB hz2
    | some q =>
      obtain ⟨a1, b1⟩ := p
      obtain ⟨a2, b2⟩ := q
      obtain ⟨_, ex1, ey1⟩ := hA
      obtain ⟨_, ex2, ey2⟩ := hB
      have hzz : z1 * z2 ≠ 0 := h.dom hz1 hz2
      have ev : v = (a2 - a1) * (z1 * z2) := by rw [hv, ex1, ex2]; grind
      have eu : u = (b2 - b1) * (z1 * z2) := by rw [hu, ey1, ey2]; grind
      have ha : v = 0 ↔ a2 = a1 := by
        constructor
        · intro e
          by_cases hd : a2 - a1 = 0
          · grind
          · exact absurd (ev ▸ e) (h.dom hd hzz)
        · rintro rfl; rw [ev]; grind
      have hb : u = 0 ↔ b2 = b1 := by
        constructor
        · intro e
          by_cases hd : b2 - b1 = 0
          · grind
          · exact absurd (eu ▸ e) (h.dom hd hzz)
        · rintro rfl; rw [eu]; grind
      refine ⟨fun h1 h2 => ?_, fun h1 h2 => ?_, fun h1 w t X Y Z hw ht hX hY hZ => ?_⟩
      · rw [ha] at h1
        rw [hb] at h2
        simp [add, h1, h2]
      · rw [ha] at h1
        have h2' : ¬ b2 = b1 := fun e => h2 (hb.2 e)
        simp [add, h1, h2']
      · have h1' : ¬ a2 = a1 := fun e => h1 (ha.2 e)
        have hs := slope_eq h (y1 := b1) (y2 := b2) h1'
        simp only [add, if_neg h1']
        unfold third
        generalize slope inv a1 b1 a2 b2 = l at *
        have eb : b2 = b1 + l * (a2 - a1) := by rw [hs]; exact addSub b1 b2
        refine ⟨?_, ?_, ?_⟩
        · rw [hZ]; exact h.dom (h.dom (h.dom h1 h1) h1) hzz
        · rw [hX, ht, hw, hZ, eu, ev, ex1, eb]
          grind
        · rw [hY, ht, hw, hZ, eu, ev, ex1, ey1, eb]
          grind

end Ec
