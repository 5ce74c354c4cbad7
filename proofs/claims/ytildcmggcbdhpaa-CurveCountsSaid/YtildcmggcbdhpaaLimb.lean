/- Package limb: what its functions compute. No conditions but that numbers are below R. -/
import Derived.Test.YtildcmggcbdhpaaBase
namespace Go.Proofs.Ytildcmggcbdhpaa
open Go.Ex Go.RowKit Lim

def addRecs (d : Nat) : List Nat → List Nat → Nat → List Rec
  | x :: xs, y :: ys, c => addF d x y c :: addRecs d xs ys ((x + y + c) / B)
  | _, _, _ => []
theorem addRecs_ok (d : Nat) (w : World) : ∀ (xs ys : List Nat) (c : Nat), Dig xs → Dig ys → c ≤ 1 → RecsOk w (addRecs d xs ys c)
  | x :: xs, y :: ys, c, hx, hy, hc => by
    have h1 := hx.head
    have h2 := hy.head
    have hc' : (x + y + c) / B ≤ 1 := by
      have : (x + y + c) / B < 2 := Nat.div_lt_of_lt_mul (by omega)
      omega
    exact ⟨addF_ok hc, addRecs_ok d w xs ys _ hx.tail hy.tail hc'⟩
  | [], [], _, _, _, _ => trivial
  | [], _ :: _, _, _, _, _ => trivial
  | _ :: _, [], _, _, _, _ => trivial
def subRecs (d : Nat) : List Nat → List Nat → Nat → List Rec
  | x :: xs, y :: ys, c => subF d x y c :: subRecs d xs ys (if x < y + c then 1 else 0)
  | _, _, _ => []
theorem subRecs_ok (d : Nat) (w : World) : ∀ (xs ys : List Nat) (c : Nat), c ≤ 1 → RecsOk w (subRecs d xs ys c)
  | x :: xs, y :: ys, c, hc => ⟨subF_ok hc, subRecs_ok d w xs ys _ (by split <;> omega)⟩
  | [], [], _, _ => trivial
  | [], _ :: _, _, _ => trivial
  | _ :: _, [], _, _ => trivial

def L4 (n : Nat) : List Nat := [l0 n, l1 n, l2 n, l3 n]
theorem L4_dig (n : Nat) : Dig (L4 n) := dig4 n
theorem L4_val {n : Nat} (h : n < R) : val (L4 n) = n := by
  have := val4 n
  rw [← R_eq, Nat.mod_eq_of_lt h] at this
  exact this

theorem add_val {a b : Nat} (ha : a < R) (hb : b < R) : aggU (addc (L4 a) (L4 b) 0).1 = NV ((a + b) % R) ∧ (addc (L4 a) (L4 b) 0).2 = (a + b) / R := by
  obtain ⟨e1, e2, e3, e4⟩ := addc_spec (L4 a) (L4 b) 0 (L4_dig a) (L4_dig b) rfl (by omega)
  have hl : (L4 a).length = 4 := rfl
  rw [hl, ← R_eq, L4_val ha, L4_val hb, Nat.add_zero] at e1
  have hv := val_lt _ e2
  rw [e3, hl, ← R_eq] at hv
  have hR : 0 < R := by decide
  rw [aggU_NV e2 (by rw [e3]; rfl), ← e1, Nat.add_mul_mod_self_left, Nat.mod_eq_of_lt hv, Nat.add_mul_div_left _ _ hR, Nat.div_eq_of_lt hv, Nat.zero_add]
  exact ⟨rfl, rfl⟩

theorem sub_val {a b : Nat} (ha : a < R) (hb : b < R) : aggU (subb (L4 a) (L4 b) 0).1 = NV ((a + R - b) % R) ∧ (subb (L4 a) (L4 b) 0).2 = if a < b then 1 else 0 := by
  obtain ⟨e1, e2, e3, e4⟩ := subb_spec (L4 a) (L4 b) 0 (L4_dig a) (L4_dig b) rfl (by omega)
  have hl : (L4 a).length = 4 := rfl
  rw [hl, ← R_eq, L4_val ha, L4_val hb, Nat.add_zero] at e1
  have hv := val_lt _ e2
  rw [e3, hl, ← R_eq] at hv
  rw [aggU_NV e2 (by rw [e3]; rfl)]
  have h01 : (subb (L4 a) (L4 b) 0).2 = 0 ∨ (subb (L4 a) (L4 b) 0).2 = 1 := by omega
  rcases h01 with h | h
  · rw [h, Nat.mul_zero] at e1
    rw [h, if_neg (by omega)]
    have : (a + R - b) % R = val (subb (L4 a) (L4 b) 0).1 := by
      rw [show a + R - b = val (subb (L4 a) (L4 b) 0).1 + R by omega, Nat.add_mod_right, Nat.mod_eq_of_lt hv]
    rw [this]
    exact ⟨rfl, rfl⟩
  · rw [h, Nat.mul_one] at e1
    rw [h, if_pos (by omega)]
    have : (a + R - b) % R = val (subb (L4 a) (L4 b) 0).1 := by
      rw [show a + R - b = val (subb (L4 a) (L4 b) 0).1 by omega, Nat.mod_eq_of_lt hv]
    rw [this]
    exact ⟨rfl, rfl⟩

/-- (limb.number).plus -/
theorem f135_raw (a b : Nat) : Pure 135 [NV a, NV b] (.tuple #[aggU (addc (L4 a) (L4 b) 0).1, U (addc (L4 a) (L4 b) 0).2]) :=
  pure_of Try.func135 rfl 8 _ (addRecs 21 (L4 a) (L4 b) 0) _ (fun w => addRecs_ok 21 w _ _ 0 (L4_dig a) (L4_dig b) (by omega)) (fun γ => by kernel_rfl)
theorem f135_ok {a b : Nat} (ha : a < R) (hb : b < R) : Pure 135 [NV a, NV b] (.tuple #[NV ((a + b) % R), U ((a + b) / R)]) := by
  have h := f135_raw a b
  rw [(add_val ha hb).1, (add_val ha hb).2] at h
  exact h
/-- (limb.number).minus -/
theorem f133_raw (a b : Nat) : Pure 133 [NV a, NV b] (.tuple #[aggU (subb (L4 a) (L4 b) 0).1, U (subb (L4 a) (L4 b) 0).2]) :=
  pure_of Try.func133 rfl 8 _ (subRecs 21 (L4 a) (L4 b) 0) _ (fun w => subRecs_ok 21 w _ _ 0 (by omega)) (fun γ => by kernel_rfl)
theorem f133_ok {a b : Nat} (ha : a < R) (hb : b < R) : Pure 133 [NV a, NV b] (.tuple #[NV ((a + R - b) % R), U (if a < b then 1 else 0)]) := by
  have h := f133_raw a b
  rw [(sub_val ha hb).1, (sub_val ha hb).2] at h
  exact h
/-- limb.Add -/
theorem f117_ok {a b : Nat} (ha : a < R) (hb : b < R) : Pure 117 [NV a, NV b] (.tuple #[NV ((a + b) % R), U ((a + b) / R)]) :=
  pure_of Try.func117 rfl 8 _ [pc 135 [NV a, NV b] (.tuple #[NV ((a + b) % R), U ((a + b) / R)])] _ (fun _ => ⟨pc_ok (f135_ok ha hb), trivial⟩) (fun γ => by kernel_rfl)
/-- limb.Sub -/
theorem f118_ok {a b : Nat} (ha : a < R) (hb : b < R) : Pure 118 [NV a, NV b] (.tuple #[NV ((a + R - b) % R), U (if a < b then 1 else 0)]) :=
  pure_of Try.func118 rfl 8 _ [pc 133 [NV a, NV b] (.tuple #[NV ((a + R - b) % R), U (if a < b then 1 else 0)])] _ (fun _ => ⟨pc_ok (f133_ok ha hb), trivial⟩) (fun γ => by kernel_rfl)
/-- limb.carry of minus -/
theorem f132_ok {a b : Nat} (ha : a < R) (hb : b < R) : Pure 132 [.func (.func 133) #[] #[], NV a, NV b] (U (if a < b then 1 else 0)) :=
  pure_of Try.func132 rfl 8 _ [pc 133 [NV a, NV b] (.tuple #[NV ((a + R - b) % R), U (if a < b then 1 else 0)])] _ (fun _ => ⟨pc_ok (f133_ok ha hb), trivial⟩) (fun γ => by kernel_rfl)

end Go.Proofs.Ytildcmggcbdhpaa
