/- Package field: powers, inverses, roots. No conditions but that numbers are below the modulus. -/
import Derived.Test.YtildcmggcbdhpaaFieldB
namespace Go.Proofs.Ytildcmggcbdhpaa
open Go.Ex Go.RowKit Lim

noncomputable def powC : Code := (loopsOf (Fx Try.f122)).getD 0 .skip
noncomputable def powS (m r2 inv root a e x : Nat) (gl : List Nat) (v : Value) (r : Nat) : St :=
  ⟨frOf Try.f122.ntmps [(0, PT (gl.getD 0 0)), (4, PT (gl.getD 2 0)), (5, PT (gl.getD 3 0)), (6, PT (gl.getD 4 0)), (9, PT (gl.getD 5 0)), (11, PT (gl.getD 6 0)), (13, v)],
    tgOf Try.f122.ntmps [(0, .at_ 0), (4, .at_ 2), (5, .at_ 3), (6, .at_ 4), (9, .at_ 5), (11, .at_ 6)],
    [fieldE (gl.getD 0 0) (gl.getD 1 0) m root fTg false, montE (gl.getD 1 0) m r2 inv, numE (gl.getD 2 0) a true, numE (gl.getD 3 0) e true, numE (gl.getD 4 0) 0 true, numE (gl.getD 5 0) x true, numE (gl.getD 6 0) r true]⟩

def powR0 (m r2 inv e h n r r' : Nat) : List Rec := [rn 40 (geX n) (.bool true), mc 103 [PT h, NV r, NV r] [(1, montE h m r2 inv)] (.tuple #[NV r', I 0]), pc 114 [NV e, I (n : Nat)] (U 0), rn 42 (decX n) (V8 n)]
def powR1 (m r2 inv e h n r r' x r'' : Nat) : List Rec := [rn 40 (geX n) (.bool true), mc 103 [PT h, NV r, NV r] [(1, montE h m r2 inv)] (.tuple #[NV r', I 0]), pc 114 [NV e, I (n : Nat)] (U 1), mc 103 [PT h, NV r', NV x] [(1, montE h m r2 inv)] (.tuple #[NV r'', I 0]), rn 42 (decX n) (V8 n)]

theorem pow_h0 (m r2 inv root a e x : Nat) (gl : List Nat) (n r r' : Nat) (γ : Nat → Nat) :
    endL (powS m r2 inv root a e x gl (V8 n) r') (exec Try.prog powC ⟨powS m r2 inv root a e x gl (I (n : Nat)) r, (List.range 8).map γ, powR0 m r2 inv e (gl.getD 1 0) n r r', []⟩) =
      endR .normal (powS m r2 inv root a e x gl (V8 n) r') (exec Try.prog powC ⟨powS m r2 inv root a e x gl (I (n : Nat)) r, (List.range 8).map γ, powR0 m r2 inv e (gl.getD 1 0) n r r', []⟩) := by kernel_rfl
theorem pow_h1 (m r2 inv root a e x : Nat) (gl : List Nat) (n r r' r'' : Nat) (γ : Nat → Nat) :
    endL (powS m r2 inv root a e x gl (V8 n) r'') (exec Try.prog powC ⟨powS m r2 inv root a e x gl (I (n : Nat)) r, (List.range 8).map γ, powR1 m r2 inv e (gl.getD 1 0) n r r' x r'', []⟩) =
      endR .normal (powS m r2 inv root a e x gl (V8 n) r'') (exec Try.prog powC ⟨powS m r2 inv root a e x gl (I (n : Nat)) r, (List.range 8).map γ, powR1 m r2 inv e (gl.getD 1 0) n r r' x r'', []⟩) := by kernel_rfl
theorem pow_stop (m r2 inv root a e x : Nat) (gl : List Nat) (r : Nat) (γ : Nat → Nat) :
    endL (powS m r2 inv root a e x gl (V8 0) r) (exec Try.prog powC ⟨powS m r2 inv root a e x gl (V8 0) r, (List.range 8).map γ, [], []⟩) =
      endR (.exit 0) (powS m r2 inv root a e x gl (V8 0) r) (exec Try.prog powC ⟨powS m r2 inv root a e x gl (V8 0) r, (List.range 8).map γ, [], []⟩) := by kernel_rfl

theorem bits_step (e n : Nat) : e / 2 ^ n = 2 * (e / 2 ^ (n + 1)) + bitN e n := by
  unfold bitN
  rw [Nat.pow_succ, ← Nat.div_div_eq_div_mul]
  omega

def powV (m a e k : Nat) : Nat := a ^ (e / 2 ^ k) * R % m
theorem pow_sq {m a e n : Nat} (hodd : m % 2 = 1) (h1 : 1 < m) : redc m (powV m a e (n + 1) * powV m a e (n + 1)) = a ^ (2 * (e / 2 ^ (n + 1))) * R % m := by
  unfold powV
  rw [redc_RR hodd h1, ← Nat.pow_add, ← Nat.two_mul]

noncomputable def powRec (m r2 inv root a e : Nat) (k : Nat) : Rec := .code powC (fun gl => powS m r2 inv root a e (a * R % m) gl (V8 k) (powV m a e k)) (fun gl => powS m r2 inv root a e (a * R % m) gl (V8 0) (powV m a e 0)) (.exit 0)
theorem powRec_ok {m r2 inv root a e k : Nat} {w0 : World} (hM : Mont m r2 inv) (hk : k ≤ 256) : (powRec m r2 inv root a e k).Ok Try.prog w0 := by
  have hpos : 0 < m := by have := hM.one; omega
  refine Rec.ok_code follows (fun gl k => powS m r2 inv root a e (a * R % m) gl (V8 k) (powV m a e k)) (fun k => k ≤ 256) id (.exit 0) (fun gl => powS m r2 inv root a e (a * R % m) gl (V8 0) (powV m a e 0)) (fun h => by cases h) k hk (fun gl k hk => ?_)
  cases k with
  | zero => exact .stop 8 [] (fun r hr => by cases hr) (fun γ => pow_stop m r2 inv root a e (a * R % m) gl (powV m a e 0) γ)
  | succ n =>
    have hb := f114_ok e (i := n) (by omega)
    have h103 := f103_ok (g := gl.getD 1 0) hM (a := powV m a e (n + 1)) (b := powV m a e (n + 1)) (Nat.mod_lt _ hpos) (Nat.mod_lt _ hpos)
    rw [pow_sq hM.odd hM.one] at h103
    have hbit : bitN e n = 0 ∨ bitN e n = 1 := by unfold bitN; omega
    rcases hbit with h0 | h0
    · rw [h0] at hb
      have ev : powV m a e n = a ^ (2 * (e / 2 ^ (n + 1))) * R % m := by unfold powV; rw [bits_step e n, h0, Nat.add_zero]
      refine .go n (by omega) (by simp) 8 (powR0 m r2 inv e (gl.getD 1 0) n (powV m a e (n + 1)) (powV m a e n)) (RecsOk.all ⟨rn_ok (geX_eq n), mc_ok ?_, pc_ok hb, rn_ok (decX_eq (by omega)), trivial⟩) (fun γ => pow_h0 m r2 inv root a e (a * R % m) gl n _ _ γ)
      rw [ev]; exact h103
    · rw [h0] at hb
      have h2 := f103_ok (g := gl.getD 1 0) hM (a := a ^ (2 * (e / 2 ^ (n + 1))) * R % m) (b := a * R % m) (Nat.mod_lt _ hpos) (Nat.mod_lt _ hpos)
      rw [redc_RR hM.odd hM.one, ← Nat.pow_succ] at h2
      have ev : powV m a e n = a ^ (2 * (e / 2 ^ (n + 1)) + 1) * R % m := by unfold powV; rw [bits_step e n, h0]
      refine .go n (by omega) (by simp) 8 (powR1 m r2 inv e (gl.getD 1 0) n (powV m a e (n + 1)) (a ^ (2 * (e / 2 ^ (n + 1))) * R % m) (a * R % m) (powV m a e n)) (RecsOk.all ⟨rn_ok (geX_eq n), mc_ok h103, pc_ok hb, mc_ok ?_, rn_ok (decX_eq (by omega)), trivial⟩) (fun γ => pow_h1 m r2 inv root a e (a * R % m) gl n _ _ _ γ)
      rw [ev]; exact h2

/-- (field.Field).Pow -/
theorem f122_ok {g h m r2 inv root a e : Nat} (hM : Mont m r2 inv) (ha : a < m) (he : e < R) : PureAt (fN g h m r2 inv root) 122 [PT g, NV a, NV e] (.tuple #[NV (a ^ e % m), I 0]) := by
  have hpos : 0 < m := by have := hM.one; omega
  have h256 : powV m a e 256 = 1 * R % m := by
    unfold powV
    rw [show (2 : Nat) ^ 256 = R from by decide, Nat.div_eq_of_lt he, Nat.pow_zero]
  have hrec := fun w0 : World => powRec_ok (m := m) (r2 := r2) (inv := inv) (root := root) (a := a) (e := e) (k := 256) (w0 := w0) hM (by omega)
  unfold powRec at hrec
  rw [h256] at hrec
  have h101 := f101_ok (g := h) hM (a := powV m a e 0) (Nat.mod_lt _ hpos)
  have e0 : redc m (powV m a e 0) = a ^ e % m := by
    unfold powV
    rw [Nat.pow_zero, Nat.div_one, redc_cong (Nat.mod_mod _ _), redc_R hM.odd hM.one]
  rw [e0] at h101
  exact pureAt_of Try.func122 rfl 8 [(PT g, .at_ 0), (NV a, .no), (NV e, .no)] (fN g h m r2 inv root)
    [mc 68 [PT g, NV a] (fNi g h m r2 inv root) (I 0), mc 100 [PT h, NV a] [(1, montE h m r2 inv)] (.tuple #[NV (a * R % m), I 0]), mc 100 [PT h, NV 1] [(1, montE h m r2 inv)] (.tuple #[NV (1 * R % m), I 0]),
      .code powC (fun gl => powS m r2 inv root a e (a * R % m) gl (V8 256) (1 * R % m)) (fun gl => powS m r2 inv root a e (a * R % m) gl (V8 0) (powV m a e 0)) (.exit 0),
      mc 101 [PT h, NV (powV m a e 0)] [(1, montE h m r2 inv)] (.tuple #[NV (a ^ e % m), I 0])] _ rfl
    (fun w => ⟨mc_ok (f68_in hM.lt ha), mc_ok (f100_ok hM ha), mc_ok (f100_ok hM hM.one), hrec w, mc_ok h101, trivial⟩) (fun γ => by kernel_rfl)

/-- (field.Field).Inv -/
theorem f102_ok {g h m r2 inv root a : Nat} (hM : Mont m r2 inv) (ha : a < m) (h0 : a ≠ 0) (h2 : 2 ≤ m) : PureAt (fN g h m r2 inv root) 102 [PT g, NV a] (.tuple #[NV (a ^ (m - 2) % m), I 0]) := by
  have h118 := f118_ok (a := m) (b := 2) hM.lt (by decide)
  have hlt := hM.lt
  rw [show m + R - 2 = (m - 2) + R by omega, Nat.add_mod_right, Nat.mod_eq_of_lt (by omega), if_neg (by omega)] at h118
  exact pureAt_of Try.func102 rfl 8 [(PT g, .at_ 0), (NV a, .no)] (fN g h m r2 inv root)
    [mc 68 [PT g, NV a] (fNi g h m r2 inv root) (I 0), eqB 18 a 0 false, pc 118 [NV m, NV 2] (.tuple #[NV (m - 2), U 0]), mc 122 [PT g, NV a, NV (m - 2)] (fNi g h m r2 inv root) (.tuple #[NV (a ^ (m - 2) % m), I 0])] _ rfl
    (fun _ => ⟨mc_ok (f68_in hM.lt ha), eqB_ok (by omega) (by decide) (decide_eq_false h0), pc_ok h118, mc_ok (f122_ok hM ha (by omega)), trivial⟩) (fun γ => by kernel_rfl)
theorem f102_zero {g h m r2 inv root : Nat} (hM : Mont m r2 inv) : PureAt (fN g h m r2 inv root) 102 [PT g, NV 0] (.tuple #[NV 0, I 21]) :=
  pureAt_of Try.func102 rfl 8 [(PT g, .at_ 0), (NV 0, .no)] (fN g h m r2 inv root)
    [mc 68 [PT g, NV 0] (fNi g h m r2 inv root) (I 0), eqB 18 0 0 true] _ rfl
    (fun _ => ⟨mc_ok (f68_in hM.lt (by have := hM.one; omega)), eqB_ok (by decide) (by decide) (decide_eq_true rfl), trivial⟩) (fun γ => by kernel_rfl)

end Go.Proofs.Ytildcmggcbdhpaa
