/- Plain: what the ladder and the document's double-and-add come to. No program in sight but its formulas. -/
import Derived.Test.YtildcmggcbdhpaaEcP
import Derived.Test.YtildcmggcbdhpaaCurveF
namespace Go.Proofs.Ytildcmggcbdhpaa
namespace Cp
set_option exponentiation.threshold 400
set_option maxRecDepth 100000

/-- numbers times points -/
def lin : List (Nat × Cp) → Cp
  | [] => o
  | (k, a) :: l => mul k a + lin l
def bs (b : Nat) : List (Nat × Cp) → Cp
  | [] => o
  | (k, a) :: l => mul (bitN k b) a + bs b l
def shr (b : Nat) (m : List (Nat × Cp)) : List (Nat × Cp) := m.map fun q => (q.1 / 2 ^ b, q.2)

def Rel : List (Nat × J) → List (Nat × Cp) → Prop
  | [], [] => True
  | (k, p) :: l, (k', a) :: m => k = k' ∧ JJ p a.1 ∧ p.lt ∧ Rel l m
  | _, _ => False

theorem lin_step (b : Nat) : ∀ m, lin (shr b m) = lin (shr (b + 1) m) + lin (shr (b + 1) m) + bs b m
  | [] => by show o = o + o + o; rw [add_o, add_o]
  | (k, a) :: m => by
    have e : k / 2 ^ b = k / 2 ^ (b + 1) + k / 2 ^ (b + 1) + bitN k b := by have := bits_step k b; omega
    show mul (k / 2 ^ b) a + lin (shr b m) = (mul (k / 2 ^ (b + 1)) a + lin (shr (b + 1) m)) + (mul (k / 2 ^ (b + 1)) a + lin (shr (b + 1) m)) + (mul (bitN k b) a + bs b m)
    rw [e, mul_add, mul_add, lin_step b m]
    ac_rfl

theorem lstep_JJ (b : Nat) (l : List (Nat × J)) : ∀ (m : List (Nat × Cp)) (c : J) (t : Cp), Rel l m → JJ c t.1 → c.lt → JJ (lstep b c l) (t + bs b m).1 := by
  induction l with
  | nil =>
    intro m c t hr h hl
    cases m with
    | nil => show JJ c (t + o).1; rw [add_o]; exact h
    | cons _ _ => exact hr.elim
  | cons q l ih =>
    intro m c t hr h hl
    cases m with
    | nil => exact hr.elim
    | cons q' m =>
      obtain ⟨k, p⟩ := q
      obtain ⟨k', a⟩ := q'
      obtain ⟨e, h1, h2, h3⟩ := hr
      subst e
      show JJ (lstep b (if bitN k b = 1 then plus c p else c) l) (t + (mul (bitN k b) a + bs b m)).1
      rw [← assoc]
      have hb : bitN k b = 0 ∨ bitN k b = 1 := by unfold bitN; omega
      rcases hb with hb | hb
      · rw [hb, if_neg (by decide), mul_zero, add_o]
        exact ih m c t h3 h hl
      · rw [hb, if_pos rfl, mul_one]
        exact ih m _ _ h3 (JJ_plus h h1 hl h2) (plus_lt hl h2)

theorem Rel.lt : ∀ {l : List (Nat × J)} {m : List (Nat × Cp)}, Rel l m → ∀ q ∈ l, q.2.lt
  | [], [], _, q, hq => by cases hq
  | [], _ :: _, h, _, _ => h.elim
  | _ :: _, [], h, _, _ => h.elim
  | (k, p) :: l, (k', a) :: m, h, q, hq => by
    rcases List.mem_cons.1 hq with rfl | hq
    · exact h.2.2.1
    · exact Rel.lt h.2.2.2 q hq

theorem lin_zero : ∀ (m : List (Nat × Cp)), (∀ q ∈ m, q.1 = 0) → lin m = o
  | [], _ => rfl
  | (k, a) :: m, h => by
    have : k = 0 := h (k, a) (by simp)
    subst this
    show mul 0 a + lin m = o
    rw [lin_zero m (fun q hq => h q (List.mem_cons_of_mem _ hq)), mul_zero, add_o]

theorem ladR_is {l : List (Nat × J)} {m : List (Nat × Cp)} (h : Rel l m) (hk : ∀ q ∈ m, q.1 < R) : JJ (ladR l 256) (lin m).1 := by
  have key : ∀ t, t ≤ 256 → JJ (ladR l t) (lin (shr (256 - t) m)).1 := by
    intro t
    induction t with
    | zero =>
      intro _
      have : lin (shr (256 - 0) m) = o := lin_zero _ (fun q hq => by
        unfold shr at hq
        rw [List.mem_map] at hq
        obtain ⟨p, hp, rfl⟩ := hq
        exact Nat.div_eq_of_lt (hk p hp))
      rw [this]
      exact JJ_inf
    | succ t ih =>
      intro ht
      have h1 := ih (by omega)
      have h2 := JJ_dbl h1 (ladR_lt h.lt t)
      rw [← sum_self, ← add_val] at h2
      have h3 := lstep_JJ (255 - t) l m _ _ h h2 (dbl_lt _)
      rw [show 256 - t = (255 - t) + 1 by omega, ← lin_step] at h3
      rw [show 256 - (t + 1) = 255 - t by omega]
      exact h3
  have h := key 256 (Nat.le_refl _)
  have e : shr (256 - 256) m = m := by
    unfold shr
    rw [Nat.sub_self, Nat.pow_zero]
    conv => rhs; rw [← List.map_id m]
    apply List.map_congr_left
    intro q _
    rw [Nat.div_one]
    rfl
  rw [e] at h
  exact h

/-- the document's double-and-add: the highest m bits -/
def tmS (k : Nat) (a : J) : Nat → J
  | 0 => ⟨0, 1, 0⟩
  | m + 1 => if bitN k (255 - m) = 1 then opl (twi (tmS k a m)) a else twi (tmS k a m)
theorem tmS_lt {k : Nat} {a : J} (ha : a.lt) : ∀ m, (tmS k a m).lt
  | 0 => ⟨P_pos, (by decide : 1 < P), P_pos⟩
  | m + 1 => by
    unfold tmS
    split
    · exact opl_lt (twi_lt _) ha
    · exact twi_lt _
theorem tmS_is {k : Nat} {p : J} {a : Cp} (h : OO p a.1) (hp : p.lt) (hk : k < R) : OO (tmS k p 256) (mul k a).1 := by
  have key : ∀ t, t ≤ 256 → OO (tmS k p t) (mul (k / 2 ^ (256 - t)) a).1 := by
    intro t
    induction t with
    | zero =>
      intro _
      have : k / 2 ^ (256 - 0) = 0 := Nat.div_eq_of_lt hk
      rw [this]
      exact OO_inf
    | succ t ih =>
      intro ht
      have h1 := OO_twi (ih (by omega)) (tmS_lt hp t)
      rw [← sum_self, ← add_val, ← mul_add] at h1
      have e := bits_step k (255 - t)
      rw [show 255 - t + 1 = 256 - t by omega] at e
      rw [show 256 - (t + 1) = 255 - t by omega]
      have hb : bitN k (255 - t) = 0 ∨ bitN k (255 - t) = 1 := by unfold bitN; omega
      unfold tmS
      rcases hb with hb | hb
      · rw [if_neg (by omega)]
        rw [show k / 2 ^ (255 - t) = k / 2 ^ (256 - t) + k / 2 ^ (256 - t) by omega]
        exact h1
      · rw [if_pos hb]
        have h2 := OO_opl h1 h (twi_lt _) hp
        rw [← add_val, ← mul_succ] at h2
        rw [show k / 2 ^ (255 - t) = k / 2 ^ (256 - t) + k / 2 ^ (256 - t) + 1 by omega]
        exact h2
  have h := key 256 (Nat.le_refl _)
  rw [Nat.sub_self, Nat.pow_zero, Nat.div_one] at h
  exact h
end Cp
end Go.Proofs.Ytildcmggcbdhpaa
