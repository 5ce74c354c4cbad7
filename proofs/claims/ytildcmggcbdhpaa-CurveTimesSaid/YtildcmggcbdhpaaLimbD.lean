/- Package limb: products in Montgomery's way. No conditions but that numbers are below the modulus. -/
import Derived.Test.YtildcmggcbdhpaaLimbC
namespace Go.Proofs.Ytildcmggcbdhpaa
open Go.Ex Go.RowKit Lim

/-- a number in a block -/
def numE (g a : Nat) (own : Bool) : Ent := ⟨g, [U (l0 a), U (l1 a), U (l2 a), U (l3 a)], [], 24, own⟩

structure Mont (m r2 inv : Nat) : Prop where
  lt : m < R
  odd : m % 2 = 1
  one : 1 < m
  inv : (m * inv + 1) % B = 0
  r2 : r2 = R * R % m

/-- (limb.Mont).below -/
theorem f128_raw {g m r2 inv k a : Nat} (hm : m < R) (ha : a < R) : PureAt [montE g m r2 inv, numE k a false] 128 [PT g, PT k] (.bool (decide (((if a < m then 1 else 0 : Nat) : Int) = 1))) :=
  pureAt_of Try.func128 rfl 8 [(PT g, .at_ 0), (PT k, .at_ 1)] [montE g m r2 inv, numE k a false] [pc 118 [NV a, NV m] (.tuple #[NV ((a + R - m) % R), U (if a < m then 1 else 0)])] _ rfl
    (fun _ => ⟨pc_ok (f118_ok ha hm), trivial⟩) (fun γ => by kernel_rfl)
theorem f128_ok {g m r2 inv k a : Nat} (hm : m < R) (ha : a < m) : PureAt [montE g m r2 inv, numE k a true] 128 [PT g, PT k] (.bool true) := by
  have h := f128_raw (g := g) (m := m) (r2 := r2) (inv := inv) (k := k) (a := a) hm (by omega)
  rw [if_pos ha] at h
  refine h.of fun w hw e he => ?_
  simp only [List.mem_cons, List.not_mem_nil, or_false] at he
  rcases he with rfl | rfl
  · exact hw _ (by simp)
  · exact hw (numE k a true) (by simp)

/-- (limb.Mont).Mul -/
theorem f103_ok {g m r2 inv a b : Nat} (h : Mont m r2 inv) (ha : a < m) (hb : b < m) : PureAt [montE g m r2 inv] 103 [PT g, NV a, NV b] (.tuple #[NV (redc m (a * b)), I 0]) :=
  pureAt_of Try.func103 rfl 8 [(PT g, .at_ 0), (NV a, .no), (NV b, .no)] [montE g m r2 inv] [lc 128 (fun σ => [PT g, PT (σ 1)]) (fun σ => [(0, montE g m r2 inv), (1, numE (σ 1) a true)]) (.bool true),
      lc 128 (fun σ => [PT g, PT (σ 2)]) (fun σ => [(0, montE g m r2 inv), (2, numE (σ 2) b true)]) (.bool true), pc 116 [NV a, NV b] (WV (a * b)), mc 129 [PT g, WV (a * b)] [(0, montE g m r2 inv)] (NV (redc m (a * b)))] _ rfl
    (fun _ => ⟨lc_ok fun σ => f128_ok h.lt ha, lc_ok fun σ => f128_ok h.lt hb, pc_ok (f116_ok (by have := h.lt; omega) (by have := h.lt; omega)),
      mc_ok (f129_ok h.lt h.odd h.one h.inv (Nat.mul_lt_mul'' ha (by have := h.lt; omega))), trivial⟩) (fun γ => by kernel_rfl)

/-- (limb.Mont).To -/
theorem f100_raw {g m r2 inv a : Nat} (h : Mont m r2 inv) (ha : a < m) : PureAt [montE g m r2 inv] 100 [PT g, NV a] (.tuple #[NV (redc m (a * r2)), I 0]) :=
  have hr : r2 < m := by rw [h.r2]; exact Nat.mod_lt _ (by have := h.one; omega)
  pureAt_of Try.func100 rfl 8 [(PT g, .at_ 0), (NV a, .no)] [montE g m r2 inv] [lc 128 (fun σ => [PT g, PT (σ 1)]) (fun σ => [(0, montE g m r2 inv), (1, numE (σ 1) a true)]) (.bool true),
      pc 116 [NV a, NV r2] (WV (a * r2)), mc 129 [PT g, WV (a * r2)] [(0, montE g m r2 inv)] (NV (redc m (a * r2)))] _ rfl
    (fun _ => ⟨lc_ok fun σ => f128_ok h.lt ha, pc_ok (f116_ok (by have := h.lt; omega) (by have := h.lt; omega)),
      mc_ok (f129_ok h.lt h.odd h.one h.inv (Nat.mul_lt_mul'' ha (by have := h.lt; omega))), trivial⟩) (fun γ => by kernel_rfl)

/-- (limb.Mont).From -/
theorem f101_ok {g m r2 inv a : Nat} (h : Mont m r2 inv) (ha : a < m) : PureAt [montE g m r2 inv] 101 [PT g, NV a] (.tuple #[NV (redc m a), I 0]) := by
  have hlt := h.lt
  have haR : a < R := by omega
  have e : WV a = .agg #[U (l0 a), U (l1 a), U (l2 a), U (l3 a), U 0, U 0, U 0, U 0] := by
    have hd : Dig [l0 a, l1 a, l2 a, l3 a, 0, 0, 0, 0] := (dig4 a).append (m := [0, 0, 0, 0]) (fun x hx => by simp at hx; subst hx; exact B_pos)
    rw [WV_mk hd]
    congr 1
    rw [show [l0 a, l1 a, l2 a, l3 a, 0, 0, 0, 0] = [l0 a, l1 a, l2 a, l3 a] ++ [0, 0, 0, 0] from rfl, val_append, val4, ← R_eq, Nat.mod_eq_of_lt haR]
    simp [val]
  have h129 := f129_ok (g := g) (r2 := r2) h.lt h.odd h.one h.inv (w := a) (by have := h.one; rw [Nat.mul_comm]; exact Nat.lt_of_lt_of_le haR (Nat.le_mul_of_pos_right _ (by omega)))
  rw [e] at h129
  exact pureAt_of Try.func101 rfl 8 [(PT g, .at_ 0), (NV a, .no)] [montE g m r2 inv] [lc 128 (fun σ => [PT g, PT (σ 1)]) (fun σ => [(0, montE g m r2 inv), (1, numE (σ 1) a true)]) (.bool true),
      mc 129 [PT g, .agg #[U (l0 a), U (l1 a), U (l2 a), U (l3 a), U 0, U 0, U 0, U 0]] [(0, montE g m r2 inv)] (NV (redc m a))] _ rfl
    (fun _ => ⟨lc_ok fun σ => f128_ok h.lt ha, mc_ok h129, trivial⟩) (fun γ => by kernel_rfl)

theorem redc_mul {m r2 inv a : Nat} (h : Mont m r2 inv) : redc m (a * r2) = a * R % m := by
  have h1 := h.one
  refine (redc_uniq h.odd h.one (Nat.mod_lt _ (by omega)) ?_).symm
  rw [h.r2, Nat.mod_mul_mod, Nat.mul_mod_mod, Nat.mul_assoc]

theorem f100_ok {g m r2 inv a : Nat} (h : Mont m r2 inv) (ha : a < m) : PureAt [montE g m r2 inv] 100 [PT g, NV a] (.tuple #[NV (a * R % m), I 0]) := by
  have := f100_raw (g := g) h ha
  rw [redc_mul h] at this
  exact this

/-- limb.Cmp -/
def cmpX (a b : Nat) : Value := .int .i64 (IntKind.i64.wrap (IntKind.i64.wrap ((if b < a then 1 else 0 : Nat) : Int) - IntKind.i64.wrap ((if a < b then 1 else 0 : Nat) : Int)))
theorem f111_raw {a b : Nat} (ha : a < R) (hb : b < R) : Pure 111 [NV a, NV b] (cmpX a b) :=
  pure_of Try.func111 rfl 8 _ [pc 132 [.func (.func 133) #[] #[], NV a, NV b] (U (if a < b then 1 else 0)), pc 132 [.func (.func 133) #[] #[], NV b, NV a] (U (if b < a then 1 else 0))] _
    (fun _ => ⟨pc_ok (f132_ok ha hb), pc_ok (f132_ok hb ha), trivial⟩) (fun γ => by kernel_rfl)
def cmpN (a b : Nat) : Int := if a < b then -1 else if b < a then 1 else 0
theorem f111_ok {a b : Nat} (ha : a < R) (hb : b < R) : Pure 111 [NV a, NV b] (I (cmpN a b)) := by
  have h := f111_raw ha hb
  have e : cmpX a b = I (cmpN a b) := by
    unfold cmpX cmpN
    by_cases h1 : a < b
    · rw [if_pos h1, if_pos h1, if_neg (by omega)]; rfl
    · by_cases h2 : b < a
      · rw [if_neg h1, if_neg h1, if_pos h2, if_pos h2]; rfl
      · rw [if_neg h1, if_neg h1, if_neg h2, if_neg h2]; rfl
  rw [e] at h
  exact h

end Go.Proofs.Ytildcmggcbdhpaa
