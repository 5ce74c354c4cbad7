/- The document's answers, layer 2: powers, inverses. No conditions but that numbers are below the modulus. -/
import Derived.Test.YtildcmggcbdhpaaRefE
namespace Go.Proofs.Ytildcmggcbdhpaa
open Go.Ex Go.RowKit Lim

noncomputable def pwC : Code := (loopsOf (Fx Try.f124)).getD 1 .skip
noncomputable def pwS (m c a e d : Nat) (gl : List Nat) (v : Value) (r : Nat) : St :=
  ⟨frOf Try.f124.ntmps [(3, PT (gl.getD 0 0)), (4, PT (gl.getD 1 0)), (5, PT (gl.getD 2 0)), (6, PT (gl.getD 3 0)), (7, PT (gl.getD 4 0)), (8, I (d : Nat)), (9, v)],
    tgOf Try.f124.ntmps [(3, .at_ 0), (4, .at_ 1), (5, .at_ 2), (6, .at_ 3), (7, .at_ 4)],
    [FE (gl.getD 0 0) m c true, numE (gl.getD 1 0) a true, numE (gl.getD 2 0) e true, numE (gl.getD 3 0) 0 true, numE (gl.getD 4 0) r true]⟩

def shrU (x j : Nat) : Sem Value := Op.shift .shr .u64 (x : Int) .u64 (IntKind.u64.wrap (j : Int))
def shrUF (d x j : Nat) : Rec := opF d (shrU x j) (U (x / 2 ^ j))
theorem shrUF_ok {w0 : World} {d x j : Nat} (hj : j ≤ 64) : (shrUF d x j).Ok Try.prog w0 := opF_ok fun w => by
  have e : (2 : Int) ^ j = ((2 ^ j : Nat) : Int) := by rw [Int.natCast_pow]; rfl
  unfold shrU
  rw [wrap_in (show j < B by unfold B; omega), shift_shr _ _ _ _ (by omega) (by show (j : Int) ≤ (64 : Nat); omega), Int.toNat_natCast, e, ← Int.natCast_ediv]
  rfl
def remX (x : Nat) : Value := .int .u64 (Int.tmod (x : Int) 2)
theorem remX_eq (x : Nat) : remX x = U (x % 2) := by
  unfold remX
  rw [Int.tmod_eq_emod_of_nonneg (by omega)]
  rfl

def pwHead (m c r r' n x b : Nat) : List Rec := [rn 16 (geX n) (.bool true), pc 66 [FV m c, NV r, NV r] (NV r'), shrUF 28 x n, rn 29 (remX (x / 2 ^ n)) (U b)]
theorem pw_go0 (m c a e : Nat) (gl : List Nat) (n r r' : Nat) (γ : Nat → Nat) : ∀ d, d < 4 →
    endL (pwS m c a e d gl (V8 n) r') (exec Try.prog pwC ⟨pwS m c a e d gl (I (n : Nat)) r, (List.range 8).map γ, pwHead m c r r' n (dg e d) 0 ++ [rn 18 (decX n) (V8 n)], []⟩) =
      endR .normal (pwS m c a e d gl (V8 n) r') (exec Try.prog pwC ⟨pwS m c a e d gl (I (n : Nat)) r, (List.range 8).map γ, pwHead m c r r' n (dg e d) 0 ++ [rn 18 (decX n) (V8 n)], []⟩)
  | 0, _ => by kernel_rfl
  | 1, _ => by kernel_rfl
  | 2, _ => by kernel_rfl
  | 3, _ => by kernel_rfl
theorem pw_go1 (m c a e : Nat) (gl : List Nat) (n r r' r'' : Nat) (γ : Nat → Nat) : ∀ d, d < 4 →
    endL (pwS m c a e d gl (V8 n) r'') (exec Try.prog pwC ⟨pwS m c a e d gl (I (n : Nat)) r, (List.range 8).map γ, pwHead m c r r' n (dg e d) 1 ++ [pc 66 [FV m c, NV r', NV a] (NV r''), rn 18 (decX n) (V8 n)], []⟩) =
      endR .normal (pwS m c a e d gl (V8 n) r'') (exec Try.prog pwC ⟨pwS m c a e d gl (I (n : Nat)) r, (List.range 8).map γ, pwHead m c r r' n (dg e d) 1 ++ [pc 66 [FV m c, NV r', NV a] (NV r''), rn 18 (decX n) (V8 n)], []⟩)
  | 0, _ => by kernel_rfl
  | 1, _ => by kernel_rfl
  | 2, _ => by kernel_rfl
  | 3, _ => by kernel_rfl
theorem pw_stop (m c a e d : Nat) (gl : List Nat) (r : Nat) (γ : Nat → Nat) :
    endL (pwS m c a e d gl (V8 0) r) (exec Try.prog pwC ⟨pwS m c a e d gl (V8 0) r, (List.range 8).map γ, [], []⟩) =
      endR (.exit 2) (pwS m c a e d gl (V8 0) r) (exec Try.prog pwC ⟨pwS m c a e d gl (V8 0) r, (List.range 8).map γ, [], []⟩) := by kernel_rfl

def pwV (m a e k : Nat) : Nat := a ^ (e / 2 ^ k) % m
noncomputable def pwRec (m c a e d k : Nat) : Rec := .code pwC (fun gl => pwS m c a e d gl (V8 k) (pwV m a e (64 * d + k))) (fun gl => pwS m c a e d gl (V8 0) (pwV m a e (64 * d))) (.exit 2)
theorem pwRec_ok {m c a e d k : Nat} {w0 : World} (hf : Fc m c) (hm : 0 < m) (ha : a < R) (hd : d < 4) (hk : k ≤ 64) : (pwRec m c a e d k).Ok Try.prog w0 := by
  have hmR := hf.lt
  refine Rec.ok_code follows (fun gl k => pwS m c a e d gl (V8 k) (pwV m a e (64 * d + k))) (fun k => k ≤ 64) id (.exit 2) (fun gl => pwS m c a e d gl (V8 0) (pwV m a e (64 * d))) (fun h => by cases h) k hk (fun gl k hk => ?_)
  have hlt : ∀ j, pwV m a e j < R := fun j => Nat.lt_trans (Nat.mod_lt _ hm) hmR
  cases k with
  | zero => exact .stop 8 [] (fun r hr => by cases hr) (fun γ => pw_stop m c a e d gl (pwV m a e (64 * d)) γ)
  | succ n =>
    have hx : dg e d < B := dg_lt (by omega)
    have hbd := bit_d e (d := d) (j := n) (by omega)
    rw [← dg_eq e d (by omega)] at hbd
    have h1 := f66_ok hf (hlt (64 * d + (n + 1))) (hlt (64 * d + (n + 1)))
    have e1 : pwV m a e (64 * d + (n + 1)) * pwV m a e (64 * d + (n + 1)) % m = a ^ (2 * (e / 2 ^ (64 * d + n + 1))) % m := by
      unfold pwV
      rw [← Nat.mul_mod, ← Nat.pow_add, ← Nat.two_mul, Nat.add_assoc]
    rw [e1] at h1
    have hstep := bits_step e (64 * d + n)
    have hbit : bitN e (64 * d + n) = 0 ∨ bitN e (64 * d + n) = 1 := by unfold bitN; omega
    have hhead : ∀ b, bitN e (64 * d + n) = b → RecsOk w0 (pwHead m c (pwV m a e (64 * d + (n + 1))) (a ^ (2 * (e / 2 ^ (64 * d + n + 1))) % m) n (dg e d) b) := fun b hb =>
      ⟨rn_ok (geX_eq n), pc_ok h1, shrUF_ok (by omega), rn_ok (by rw [remX_eq, hbd, hb]), trivial⟩
    rcases hbit with h0 | h0
    · have ev : pwV m a e (64 * d + n) = a ^ (2 * (e / 2 ^ (64 * d + n + 1))) % m := by unfold pwV; rw [hstep, h0, Nat.add_zero]
      have hh := hhead 0 h0
      rw [← ev] at hh
      exact .go n (by omega) (by simp) 8 (pwHead m c (pwV m a e (64 * d + (n + 1))) (pwV m a e (64 * d + n)) n (dg e d) 0 ++ [rn 18 (decX n) (V8 n)]) ((hh.append (m := [rn 18 (decX n) (V8 n)]) ⟨rn_ok (decX_eq (by omega)), trivial⟩).all) (fun γ => pw_go0 m c a e gl n _ _ γ d hd)
    · have h2 := f66_ok hf (a := a ^ (2 * (e / 2 ^ (64 * d + n + 1))) % m) (b := a) (Nat.lt_trans (Nat.mod_lt _ hm) hmR) ha
      rw [Nat.mod_mul_mod, ← Nat.pow_succ] at h2
      have ev : pwV m a e (64 * d + n) = a ^ (2 * (e / 2 ^ (64 * d + n + 1)) + 1) % m := by unfold pwV; rw [hstep, h0]
      rw [← ev] at h2
      exact .go n (by omega) (by simp) 8 (pwHead m c (pwV m a e (64 * d + (n + 1))) (a ^ (2 * (e / 2 ^ (64 * d + n + 1))) % m) n (dg e d) 1 ++ [pc 66 [FV m c, NV (a ^ (2 * (e / 2 ^ (64 * d + n + 1))) % m), NV a] (NV (pwV m a e (64 * d + n))), rn 18 (decX n) (V8 n)]) (((hhead 1 h0).append (m := [pc 66 [FV m c, NV (a ^ (2 * (e / 2 ^ (64 * d + n + 1))) % m), NV a] (NV (pwV m a e (64 * d + n))), rn 18 (decX n) (V8 n)]) ⟨pc_ok h2, rn_ok (decX_eq (by omega)), trivial⟩).all) (fun γ => pw_go1 m c a e gl n _ _ _ γ d hd)

noncomputable def pwRecs (m c a e r1 r2 r3 r4 : Nat) : List Rec := [rn 12 (.bool true) (.bool true), .code pwC (fun gl => pwS m c a e 3 gl (V8 64) 1) (fun gl => pwS m c a e 3 gl (V8 0) r3) (.exit 2),
      rn 12 (.bool true) (.bool true), .code pwC (fun gl => pwS m c a e 2 gl (V8 64) r3) (fun gl => pwS m c a e 2 gl (V8 0) r2) (.exit 2), rn 12 (.bool true) (.bool true), .code pwC (fun gl => pwS m c a e 1 gl (V8 64) r2) (fun gl => pwS m c a e 1 gl (V8 0) r1) (.exit 2),
      rn 12 (.bool true) (.bool true), .code pwC (fun gl => pwS m c a e 0 gl (V8 64) r1) (fun gl => pwS m c a e 0 gl (V8 0) r4) (.exit 2)]
/-- (Field).Pow -/
theorem f124_raw (m c a e r1 r2 r3 r4 : Nat) (γ : Nat → Nat) :
    outL Try.prog Try.f124.results.toList [] (exec Try.prog (Fx Try.f124) ⟨Ex.start Try.f124.ntmps [(FV m c, .no), (NV a, .no), (NV e, .no)] [], (List.range 8).map γ, pwRecs m c a e r1 r2 r3 r4, []⟩) =
      outR Try.prog Try.f124.results.toList [] (NV r4) (exec Try.prog (Fx Try.f124) ⟨Ex.start Try.f124.ntmps [(FV m c, .no), (NV a, .no), (NV e, .no)] [], (List.range 8).map γ, pwRecs m c a e r1 r2 r3 r4, []⟩) := by kernel_rfl

theorem f124_ok {m c a e : Nat} (hf : Fc m c) (h1 : 1 < m) (ha : a < R) (he : e < R) : Pure 124 [FV m c, NV a, NV e] (NV (a ^ e % m)) := by
  have hm : 0 < m := by omega
  have e3 : pwV m a e 256 = 1 := by
    unfold pwV
    rw [show (2 : Nat) ^ 256 = R from by decide, Nat.div_eq_of_lt he, Nat.pow_zero, Nat.mod_eq_of_lt h1]
  have e0 : pwV m a e 0 = a ^ e % m := by unfold pwV; rw [Nat.pow_zero, Nat.div_one]
  have r3 := fun w0 : World => pwRec_ok (e := e) (d := 3) (k := 64) (w0 := w0) hf hm ha (by omega) (by omega)
  have r2 := fun w0 : World => pwRec_ok (e := e) (d := 2) (k := 64) (w0 := w0) hf hm ha (by omega) (by omega)
  have r1 := fun w0 : World => pwRec_ok (e := e) (d := 1) (k := 64) (w0 := w0) hf hm ha (by omega) (by omega)
  have r0 := fun w0 : World => pwRec_ok (e := e) (d := 0) (k := 64) (w0 := w0) hf hm ha (by omega) (by omega)
  unfold pwRec at r3 r2 r1 r0
  simp only [Nat.reduceMul, Nat.reduceAdd, Nat.zero_add] at r3 r2 r1 r0
  rw [e3] at r3
  rw [e0] at r0
  exact pure_of Try.func124 rfl 8 [FV m c, NV a, NV e] (pwRecs m c a e (pwV m a e 64) (pwV m a e 128) (pwV m a e 192) (a ^ e % m)) _ (fun w => ⟨rn_ok rfl, r3 w, rn_ok rfl, r2 w, rn_ok rfl, r1 w, rn_ok rfl, r0 w, trivial⟩) (fun γ => f124_raw m c a e _ _ _ _ γ)

/-- (Field).Inv -/
theorem f107_ok {m c a : Nat} (hf : Fc m c) (h1 : 2 ≤ m) (ha : a < R) : Pure 107 [FV m c, NV a] (NV (a ^ (m - 2) % m)) := by
  have hm := hf.lt
  have h2 := f113_ok (a := m) (b := 2) hm (by decide)
  rw [show m + R - 2 = (m - 2) + R by omega, Nat.add_mod_right, Nat.mod_eq_of_lt (by omega)] at h2
  exact pure_of Try.func107 rfl 8 _ [pc 113 [NV m, NV 2] (NV (m - 2)), pc 124 [FV m c, NV a, NV (m - 2)] (NV (a ^ (m - 2) % m))] _ (fun _ => ⟨pc_ok h2, pc_ok (f124_ok hf (by omega) ha (by omega)), trivial⟩) (fun γ => by kernel_rfl)

end Go.Proofs.Ytildcmggcbdhpaa
