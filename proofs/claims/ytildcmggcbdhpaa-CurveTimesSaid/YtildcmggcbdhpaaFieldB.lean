/- Package field: sums, differences, products, negatives. No conditions but that numbers are below the modulus. -/
import Derived.Test.YtildcmggcbdhpaaFieldA
namespace Go.Proofs.Ytildcmggcbdhpaa
open Go.Ex Go.RowKit Lim

theorem add_arith {m a b : Nat} (hm : m < R) (ha : a < m) (hb : b < m) :
    ∃ t, (((a + b) / R = 0 ∧ (if (a + b) % R < m then 1 else 0) = 0 ∧ t = 1) ∨ ((a + b) / R = 0 ∧ (if (a + b) % R < m then 1 else 0) = 1 ∧ t = 0) ∨ ((a + b) / R = 1 ∧ (if (a + b) % R < m then 1 else 0) = 1 ∧ t = 1) ∨ ((a + b) / R = 1 ∧ (if (a + b) % R < m then 1 else 0) = 0 ∧ t = 1)) ∧
      ((t = 1 ∧ (a + b) % m = ((a + b) % R + R - m) % R) ∨ (t = 0 ∧ (a + b) % m = (a + b) % R)) := by
  have hR : R = 115792089237316195423570985008687907853269984665640564039457584007913129639936 := rfl
  by_cases h1 : a + b < m
  · refine ⟨0, .inr (.inl ⟨Nat.div_eq_of_lt (by omega), ?_, rfl⟩), .inr ⟨rfl, ?_⟩⟩
    · rw [Nat.mod_eq_of_lt (by omega), if_pos h1]
    · rw [Nat.mod_eq_of_lt h1, Nat.mod_eq_of_lt (by omega)]
  · have e3 : (a + b) % m = a + b - m := by rw [Nat.mod_eq_sub_mod (by omega), Nat.mod_eq_of_lt (by omega)]
    by_cases h2 : a + b < R
    · refine ⟨1, .inl ⟨Nat.div_eq_of_lt h2, ?_, rfl⟩, .inl ⟨rfl, ?_⟩⟩
      · rw [Nat.mod_eq_of_lt h2, if_neg h1]
      · rw [e3, Nat.mod_eq_of_lt h2, show a + b + R - m = (a + b - m) + R by omega, Nat.add_mod_right, Nat.mod_eq_of_lt (by omega)]
    · have e1 : (a + b) % R = a + b - R := by rw [Nat.mod_eq_sub_mod (by omega), Nat.mod_eq_of_lt (by omega)]
      refine ⟨1, .inr (.inr (.inl ⟨?_, ?_, rfl⟩)), .inl ⟨rfl, ?_⟩⟩
      · apply Nat.div_eq_of_lt_le <;> omega
      · rw [e1, if_pos (by omega)]
      · rw [e3, e1, Nat.mod_eq_of_lt (by omega)]; omega

/-- (field.Field).plus -/
theorem f79_raw {g h m r2 inv root a b s o d c t r : Nat} (h1 : Pure 117 [NV a, NV b] (.tuple #[NV s, U o])) (h2 : Pure 118 [NV s, NV m] (.tuple #[NV d, U c])) (h3 : (.int .u64 (bits .or .u64 (o : Nat) (IntKind.u64.wrap (1 - ((c : Nat) : Int)))) : Value) = U t) (h4 : Pure 119 [U t, NV d, NV s] (NV r)) :
    PureAt (fN g h m r2 inv root) 79 [PT g, NV a, NV b] (NV r) :=
  pureAt_of Try.func79 rfl 8 [(PT g, .at_ 0), (NV a, .no), (NV b, .no)] (fN g h m r2 inv root) [pc 117 [NV a, NV b] (.tuple #[NV s, U o]), pc 118 [NV s, NV m] (.tuple #[NV d, U c]), rn 29 (.int .u64 (bits .or .u64 (o : Nat) (IntKind.u64.wrap (1 - ((c : Nat) : Int))))) (U t), pc 119 [U t, NV d, NV s] (NV r)] _ rfl
    (fun _ => ⟨pc_ok h1, pc_ok h2, rn_ok h3, pc_ok h4, trivial⟩) (fun γ => by kernel_rfl)
theorem f79_ok {g h m r2 inv root a b : Nat} (hm : m < R) (ha : a < m) (hb : b < m) : PureAt (fN g h m r2 inv root) 79 [PT g, NV a, NV b] (NV ((a + b) % m)) := by
  obtain ⟨t, h1, h2⟩ := add_arith hm ha hb
  refine f79_raw (f117_ok (by omega) (by omega)) (f118_ok (Nat.mod_lt _ (by decide)) hm) (or_sel h1) (t := t) ?_
  rcases h2 with ⟨rfl, e⟩ | ⟨rfl, e⟩
  · rw [e]; exact f119_one _ _
  · rw [e]; exact f119_zero _ _

/-- (field.Field).minus -/
theorem f120_raw {g h m r2 inv root a b s o d c r : Nat} (h1 : Pure 118 [NV a, NV b] (.tuple #[NV d, U c])) (h2 : Pure 117 [NV d, NV m] (.tuple #[NV s, U o])) (h4 : Pure 119 [U c, NV s, NV d] (NV r)) :
    PureAt (fN g h m r2 inv root) 120 [PT g, NV a, NV b] (NV r) :=
  pureAt_of Try.func120 rfl 8 [(PT g, .at_ 0), (NV a, .no), (NV b, .no)] (fN g h m r2 inv root) [pc 118 [NV a, NV b] (.tuple #[NV d, U c]), pc 117 [NV d, NV m] (.tuple #[NV s, U o]), pc 119 [U c, NV s, NV d] (NV r)] _ rfl
    (fun _ => ⟨pc_ok h1, pc_ok h2, pc_ok h4, trivial⟩) (fun γ => by kernel_rfl)
theorem sub_arith {m a b : Nat} (hm : m < R) (ha : a < m) (hb : b < m) : ((a < b) ∧ (a + m - b) % m = ((a + R - b) % R + m) % R) ∨ (¬ a < b ∧ (a + m - b) % m = (a + R - b) % R) := by
  have hR : R = 115792089237316195423570985008687907853269984665640564039457584007913129639936 := rfl
  by_cases h : a < b
  · refine .inl ⟨h, ?_⟩
    rw [Nat.mod_eq_of_lt (by omega), Nat.mod_eq_of_lt (a := a + R - b) (by omega), show a + R - b + m = (a + m - b) + R by omega, Nat.add_mod_right, Nat.mod_eq_of_lt (by omega)]
  · refine .inr ⟨h, ?_⟩
    rw [show a + m - b = (a - b) + m by omega, Nat.add_mod_right, Nat.mod_eq_of_lt (by omega), show a + R - b = (a - b) + R by omega, Nat.add_mod_right, Nat.mod_eq_of_lt (by omega)]
theorem f120_ok {g h m r2 inv root a b : Nat} (hm : m < R) (ha : a < m) (hb : b < m) : PureAt (fN g h m r2 inv root) 120 [PT g, NV a, NV b] (NV ((a + m - b) % m)) := by
  have h1 := f118_ok (a := a) (b := b) (by omega) (by omega)
  have h2 := f117_ok (a := (a + R - b) % R) (b := m) (Nat.mod_lt _ (by decide)) hm
  rcases sub_arith hm ha hb with ⟨hl, e⟩ | ⟨hl, e⟩
  · rw [if_pos hl] at h1
    rw [e]
    exact f120_raw h1 h2 (f119_one _ _)
  · rw [if_neg hl] at h1
    rw [e]
    exact f120_raw h1 h2 (f119_zero _ _)

theorem redc_R {m a : Nat} (hodd : m % 2 = 1) (h1 : 1 < m) : redc m (a * R) = a % m := by
  refine (redc_uniq hodd h1 (Nat.mod_lt _ (by omega)) ?_).symm
  rw [Nat.mod_mul_mod]

theorem redc_cong {m a b : Nat} (h : a % m = b % m) : redc m a = redc m b := by
  unfold redc
  rw [← Nat.mod_mul_mod, h, Nat.mod_mul_mod]

theorem redc_RR {m a b : Nat} (hodd : m % 2 = 1) (h1 : 1 < m) : redc m ((a * R % m) * (b * R % m)) = a * b * R % m := by
  rw [← redc_R (a := a * b * R) hodd h1]
  apply redc_cong
  rw [← Nat.mul_mod, Nat.mul_mul_mul_comm, ← Nat.mul_assoc]

theorem redc_R1 {m a b : Nat} (hodd : m % 2 = 1) (h1 : 1 < m) : redc m ((a * R % m) * b) = a * b % m := by
  rw [← redc_R (a := a * b) hodd h1]
  apply redc_cong
  rw [Nat.mod_mul_mod, Nat.mul_right_comm]

/-- (field.Field).times -/
theorem f80_ok {g h m r2 inv root a b : Nat} (hM : Mont m r2 inv) (ha : a < m) (hb : b < m) : PureAt (fN g h m r2 inv root) 80 [PT g, NV a, NV b] (NV (a * b % m)) := by
  have h1 := f100_ok (g := h) hM ha
  have h2 := f103_ok (g := h) hM (a := a * R % m) (b := b) (Nat.mod_lt _ (by omega)) hb
  rw [redc_R1 hM.odd hM.one] at h2
  exact pureAt_of Try.func80 rfl 8 [(PT g, .at_ 0), (NV a, .no), (NV b, .no)] (fN g h m r2 inv root) [mc 100 [PT h, NV a] [(1, montE h m r2 inv)] (.tuple #[NV (a * R % m), I 0]), mc 103 [PT h, NV (a * R % m), NV b] [(1, montE h m r2 inv)] (.tuple #[NV (a * b % m), I 0])] _ rfl
    (fun _ => ⟨mc_ok h1, mc_ok h2, trivial⟩) (fun γ => by kernel_rfl)

def fNi (g h m r2 inv root : Nat) : List (Nat × Ent) := [(0, fieldE g h m root fTg false), (1, montE h m r2 inv)]

/-- (field.Field).two -/
theorem f78_plus {g h m r2 inv root a b : Nat} (hm : m < R) (ha : a < m) (hb : b < m) : PureAt (fN g h m r2 inv root) 78 [PT g, .func (.func 79) #[PT g] #[], NV a, NV b] (.tuple #[NV ((a + b) % m), I 0]) :=
  pureAt_of Try.func78 rfl 8 [(PT g, .at_ 0), (.func (.func 79) #[PT g] #[], .no), (NV a, .no), (NV b, .no)] (fN g h m r2 inv root) [mc 68 [PT g, NV a] (fNi g h m r2 inv root) (I 0), mc 68 [PT g, NV b] (fNi g h m r2 inv root) (I 0), mc 79 [PT g, NV a, NV b] (fNi g h m r2 inv root) (NV ((a + b) % m))] _ rfl
    (fun _ => ⟨mc_ok (f68_in hm ha), mc_ok (f68_in hm hb), mc_ok (f79_ok hm ha hb), trivial⟩) (fun γ => by kernel_rfl)
theorem f78_minus {g h m r2 inv root a b : Nat} (hm : m < R) (ha : a < m) (hb : b < m) : PureAt (fN g h m r2 inv root) 78 [PT g, .func (.func 120) #[PT g] #[], NV a, NV b] (.tuple #[NV ((a + m - b) % m), I 0]) :=
  pureAt_of Try.func78 rfl 8 [(PT g, .at_ 0), (.func (.func 120) #[PT g] #[], .no), (NV a, .no), (NV b, .no)] (fN g h m r2 inv root) [mc 68 [PT g, NV a] (fNi g h m r2 inv root) (I 0), mc 68 [PT g, NV b] (fNi g h m r2 inv root) (I 0), mc 120 [PT g, NV a, NV b] (fNi g h m r2 inv root) (NV ((a + m - b) % m))] _ rfl
    (fun _ => ⟨mc_ok (f68_in hm ha), mc_ok (f68_in hm hb), mc_ok (f120_ok hm ha hb), trivial⟩) (fun γ => by kernel_rfl)
theorem f78_times {g h m r2 inv root a b : Nat} (hM : Mont m r2 inv) (ha : a < m) (hb : b < m) : PureAt (fN g h m r2 inv root) 78 [PT g, .func (.func 80) #[PT g] #[], NV a, NV b] (.tuple #[NV (a * b % m), I 0]) :=
  pureAt_of Try.func78 rfl 8 [(PT g, .at_ 0), (.func (.func 80) #[PT g] #[], .no), (NV a, .no), (NV b, .no)] (fN g h m r2 inv root) [mc 68 [PT g, NV a] (fNi g h m r2 inv root) (I 0), mc 68 [PT g, NV b] (fNi g h m r2 inv root) (I 0), mc 80 [PT g, NV a, NV b] (fNi g h m r2 inv root) (NV (a * b % m))] _ rfl
    (fun _ => ⟨mc_ok (f68_in hM.lt ha), mc_ok (f68_in hM.lt hb), mc_ok (f80_ok hM ha hb), trivial⟩) (fun γ => by kernel_rfl)

/-- (field.Field).Add -/
theorem f30_ok {g h m r2 inv root a b : Nat} (hm : m < R) (ha : a < m) (hb : b < m) : PureAt (fN g h m r2 inv root) 30 [PT g, NV a, NV b] (.tuple #[NV ((a + b) % m), I 0]) :=
  pureAt_of Try.func30 rfl 8 [(PT g, .at_ 0), (NV a, .no), (NV b, .no)] (fN g h m r2 inv root) [mc 78 [PT g, .func (.func 79) #[PT g] #[], NV a, NV b] (fNi g h m r2 inv root) (.tuple #[NV ((a + b) % m), I 0])] _ rfl
    (fun _ => ⟨mc_ok (f78_plus hm ha hb), trivial⟩) (fun γ => by kernel_rfl)
/-- (field.Field).Sub -/
theorem f81_ok {g h m r2 inv root a b : Nat} (hm : m < R) (ha : a < m) (hb : b < m) : PureAt (fN g h m r2 inv root) 81 [PT g, NV a, NV b] (.tuple #[NV ((a + m - b) % m), I 0]) :=
  pureAt_of Try.func81 rfl 8 [(PT g, .at_ 0), (NV a, .no), (NV b, .no)] (fN g h m r2 inv root) [mc 78 [PT g, .func (.func 120) #[PT g] #[], NV a, NV b] (fNi g h m r2 inv root) (.tuple #[NV ((a + m - b) % m), I 0])] _ rfl
    (fun _ => ⟨mc_ok (f78_minus hm ha hb), trivial⟩) (fun γ => by kernel_rfl)
/-- (field.Field).Mul -/
theorem f31_ok {g h m r2 inv root a b : Nat} (hM : Mont m r2 inv) (ha : a < m) (hb : b < m) : PureAt (fN g h m r2 inv root) 31 [PT g, NV a, NV b] (.tuple #[NV (a * b % m), I 0]) :=
  pureAt_of Try.func31 rfl 8 [(PT g, .at_ 0), (NV a, .no), (NV b, .no)] (fN g h m r2 inv root) [mc 78 [PT g, .func (.func 80) #[PT g] #[], NV a, NV b] (fNi g h m r2 inv root) (.tuple #[NV (a * b % m), I 0])] _ rfl
    (fun _ => ⟨mc_ok (f78_times hM ha hb), trivial⟩) (fun γ => by kernel_rfl)
/-- (field.Field).Neg -/
theorem f32_ok {g h m r2 inv root a : Nat} (hm : m < R) (ha : a < m) : PureAt (fN g h m r2 inv root) 32 [PT g, NV a] (.tuple #[NV ((m - a) % m), I 0]) := by
  have h1 := f81_ok (g := g) (h := h) (r2 := r2) (inv := inv) (root := root) hm (a := 0) (b := a) (by omega) ha
  rw [Nat.zero_add] at h1
  exact pureAt_of Try.func32 rfl 8 [(PT g, .at_ 0), (NV a, .no)] (fN g h m r2 inv root) [mc 81 [PT g, NV 0, NV a] (fNi g h m r2 inv root) (.tuple #[NV ((m - a) % m), I 0])] _ rfl
    (fun _ => ⟨mc_ok h1, trivial⟩) (fun γ => by kernel_rfl)

end Go.Proofs.Ytildcmggcbdhpaa
