/- Bytes as numbers: package limb and the document's answer. No conditions but that numbers are below R. -/
import Derived.Test.YtildcmggcbdhpaaBytesA
import Derived.Laws.Strings
namespace Go.Proofs.Ytildcmggcbdhpaa
open Go.Ex Go.RowKit Lim
set_option maxRecDepth 100000
set_option exponentiation.threshold 600

/-- byte k of a text -/
def sb (s : ByteArray) (k : Nat) : Nat := (s[k]?.getD 0).toNat
theorem sb_lt (s : ByteArray) (k : Nat) : sb s k < 256 := UInt8.toNat_lt _
def ixS (d : Nat) (s : ByteArray) (k : Nat) : Rec := opF d (Instr.index 9 (.string s) (.int .i64 (k : Int))) (Uy (sb s k))
theorem ixS_ok {w0 : World} {d k : Nat} {s : ByteArray} (h : k < s.size) : (ixS d s k).Ok Try.prog w0 := opF_ok fun w => by
  rw [run_index_string w 9 s .i64 (k : Int) (by kernel_rfl), dif_pos ⟨by omega, by omega⟩]
  have e : sb s k = (s[k]'h).toNat := by unfold sb; rw [ByteArray.getElem?_lt' s k h]; rfl
  rw [e]
  rfl
def cvW (d b : Nat) : Rec := opF d (convert 5 22 (Uy b)) (U b)
theorem cvW_ok {w0 : World} {d b : Nat} (h : b < 256) : (cvW d b).Ok Try.prog w0 := opF_ok fun w => by
  have h1 : (convert 5 22 (Uy b)).run Try.prog w = .ok (.int .u64 (IntKind.u64.wrap (b : Int))) w := by kernel_rfl
  rw [h1, wrap_in (Nat.lt_trans h (by decide))]
def shlK (d b n : Nat) : Rec := opF d (Op.shift .shl .u64 (b : Int) .i64 (n : Int)) (U (b * 2 ^ n))
theorem shlK_ok {w0 : World} {d b n : Nat} (hn : n ≤ 64) (h : b * 2 ^ n < B) : (shlK d b n).Ok Try.prog w0 := opF_ok fun w => by
  rw [shift_shl _ _ _ _ (by omega) (by show (n : Int) ≤ (64 : Nat); omega)]
  have e : (b : Int) * 2 ^ (n : Int).toNat = ((b * 2 ^ n : Nat) : Int) := by rw [Int.toNat_natCast, Int.natCast_mul, Int.natCast_pow]; rfl
  rw [e, wrap_in h]
  rfl
/-- a word's lowest j bytes -/
def pl (s : ByteArray) (d : Nat) : Nat → Nat
  | 0 => 0
  | j + 1 => pl s d j + sb s (31 - (8 * d + j)) * 2 ^ (8 * j)
theorem pl_lt (s : ByteArray) (d : Nat) : ∀ j, pl s d j < 2 ^ (8 * j)
  | 0 => by simp [pl]
  | j + 1 => by
    have h1 := pl_lt s d j
    have h2 := sb_lt s (31 - (8 * d + j))
    have e : 2 ^ (8 * (j + 1)) = 2 ^ (8 * j) * 256 := by rw [Nat.mul_succ, Nat.pow_add]
    rw [e]
    unfold pl
    generalize 2 ^ (8 * j) = p at *
    have : sb s (31 - (8 * d + j)) * p ≤ 255 * p := Nat.mul_le_mul_right _ (by omega)
    rw [Nat.mul_comm p 256]
    omega
theorem pl_8 (s : ByteArray) (d : Nat) : pl s d 8 < B := pl_lt s d 8
def orX (p q : Nat) : Value := .int .u64 (bits .or .u64 (p : Int) (q : Int))
theorem orX_eq {p b n : Nat} (hp : p < 2 ^ n) (hpB : p < B) (hb : b * 2 ^ n < B) : orX p (b * 2 ^ n) = U (p + b * 2 ^ n) := by
  unfold orX
  have e : p ||| b * 2 ^ n = p + b * 2 ^ n := by
    rw [← Nat.shiftLeft_eq, Nat.or_comm, ← Nat.shiftLeft_add_eq_or_of_lt hp, Nat.add_comm]
  rw [u64_or_nat p (b * 2 ^ n) hpB hb, e]
def fbRecs (s : ByteArray) (i : Nat) : List Rec :=
  [ixS 20 s (31 - i), cvW 21 (sb s (31 - i)), shlK 25 (sb s (31 - i)) (8 * (i % 8)), rn 26 (orX (pl s (i / 8) (i % 8)) (sb s (31 - i) * 2 ^ (8 * (i % 8)))) (U (pl s (i / 8) (i % 8 + 1)))]
theorem fbRecs_ok {s : ByteArray} (hs : s.size = 32) {i : Nat} (hi : i < 32) (w0 : World) : RecsOk w0 (fbRecs s i) := by
  have hb := sb_lt s (31 - i)
  have hq : sb s (31 - i) * 2 ^ (8 * (i % 8)) < B := by
    have h1 : sb s (31 - i) * 2 ^ (8 * (i % 8)) < 256 * 2 ^ (8 * (i % 8)) := Nat.mul_lt_mul_of_pos_right hb (Nat.two_pow_pos _)
    have h2 : 256 * 2 ^ (8 * (i % 8)) ≤ B := by
      rw [show 256 = 2 ^ 8 from rfl, ← Nat.pow_add, show B = 2 ^ 64 by decide]
      exact Nat.pow_le_pow_right (by decide) (by omega)
    omega
  have hp := pl_lt s (i / 8) (i % 8)
  have hpB : pl s (i / 8) (i % 8) < B := Nat.lt_of_lt_of_le hp (by
    rw [show B = 2 ^ 64 by decide]
    exact Nat.pow_le_pow_right (by decide) (by omega))
  refine ⟨ixS_ok (by omega), cvW_ok hb, shlK_ok (by omega) hq, rn_ok ?_, trivial⟩
  rw [orX_eq hp hpB hq]
  show _ = U (pl s (i / 8) (i % 8) + sb s (31 - (8 * (i / 8) + i % 8)) * 2 ^ (8 * (i % 8)))
  rw [show 8 * (i / 8) + i % 8 = i by omega]
def nS (s : ByteArray) : Nat := val [pl s 0 8, pl s 1 8, pl s 2 8, pl s 3 8]
theorem dgS (s : ByteArray) : Dig [pl s 0 8, pl s 1 8, pl s 2 8, pl s 3 8] := Dig.cons (pl_8 s 0) (Dig.cons (pl_8 s 1) (Dig.cons (pl_8 s 2) (Dig.cons (pl_8 s 3) Dig.nil)))
theorem nS_lt (s : ByteArray) : nS s < R := by
  have h := val_lt _ (dgS s)
  rw [show [pl s 0 8, pl s 1 8, pl s 2 8, pl s 3 8].length = 4 from rfl, ← R_eq] at h
  exact h
/-- limb.FromBytes -/
theorem f121_raw (s : ByteArray) (γ : Nat → Nat) :
    outL Try.prog Try.f121.results.toList [] (exec Try.prog (Fx Try.f121) ⟨Ex.start Try.f121.ntmps [(.string s, .no)] [], (List.range 8).map γ, rn 8 (nqX s.size 32) (.bool false) :: (List.range 32).flatMap (fbRecs s), []⟩) =
      outR Try.prog Try.f121.results.toList [] (.tuple #[.agg #[U (pl s 0 8), U (pl s 1 8), U (pl s 2 8), U (pl s 3 8)], I 0]) (exec Try.prog (Fx Try.f121) ⟨Ex.start Try.f121.ntmps [(.string s, .no)] [], (List.range 8).map γ, rn 8 (nqX s.size 32) (.bool false) :: (List.range 32).flatMap (fbRecs s), []⟩) := by kernel_rfl
theorem f121_ok {s : ByteArray} (hs : s.size = 32) : Pure 121 [.string s] (.tuple #[NV (nS s), I 0]) := by
  have e : (.agg #[U (pl s 0 8), U (pl s 1 8), U (pl s 2 8), U (pl s 3 8)] : Value) = NV (nS s) := NV_mk (dgS s)
  rw [← e]
  exact pure_of Try.func121 rfl 8 [.string s] (rn 8 (nqX s.size 32) (.bool false) :: (List.range 32).flatMap (fbRecs s)) _ (fun w0 => ⟨rn_ok (by rw [hs]; rfl), flat_ok _ _ (fun i hi => fbRecs_ok hs (by simpa using hi) w0)⟩) (fun γ => f121_raw s γ)
theorem f121_len {s : ByteArray} (hs : s.size ≠ 32) : Pure 121 [.string s] (.tuple #[NV 0, I 4]) :=
  pure_of Try.func121 rfl 8 [.string s] [rn 8 (nqX s.size 32) (.bool true)] _ (fun w0 => ⟨rn_ok (nqX_true hs), trivial⟩) (fun γ => by kernel_rfl)

/-- wardmoteref01.FromBytes -/
def hl (s : ByteArray) (k : Nat) : Nat → Nat
  | 0 => 0
  | j + 1 => hl s k j * 256 + sb s (8 * (3 - k) + j)
theorem hl_lt (s : ByteArray) (k : Nat) : ∀ j, hl s k j < 256 ^ j
  | 0 => by simp [hl]
  | j + 1 => by
    have h1 := hl_lt s k j
    have h2 := sb_lt s (8 * (3 - k) + j)
    unfold hl
    rw [Nat.pow_succ]
    generalize 256 ^ j = p at *
    omega
theorem hl_pl (s : ByteArray) : ∀ k, k < 4 → hl s k 8 = pl s k 8
  | 0, _ | 1, _ | 2, _ | 3, _ => by simp only [hl, pl, Nat.reduceMul, Nat.reduceSub, Nat.reduceAdd, Nat.reducePow]; omega
def mu256 (x : Nat) : Value := .int .u64 (IntKind.u64.wrap ((x : Int) * 256))
def adX2 (x y : Nat) : Value := .int .u64 (IntKind.u64.wrap ((x : Int) + (y : Int)))
def rfRecs (s : ByteArray) (i : Nat) : List Rec :=
  [rn 22 (mu256 (hl s (3 - i / 8) (i % 8))) (U (hl s (3 - i / 8) (i % 8) * 256)), ixS 25 s i, cvW 26 (sb s i), rn 27 (adX2 (hl s (3 - i / 8) (i % 8) * 256) (sb s i)) (U (hl s (3 - i / 8) (i % 8 + 1)))]
theorem rfRecs_ok {s : ByteArray} (hs : s.size = 32) {i : Nat} (hi : i < 32) (w0 : World) : RecsOk w0 (rfRecs s i) := by
  have hb := sb_lt s i
  have h1 := hl_lt s (3 - i / 8) (i % 8)
  have h2 : hl s (3 - i / 8) (i % 8) * 256 + 255 < B := by
    have h3 : (256 : Nat) ^ (i % 8) ≤ 256 ^ 7 := Nat.pow_le_pow_right (by decide) (by omega)
    have h4 : (256 : Nat) ^ 7 * 256 = B := by decide
    omega
  refine ⟨rn_ok ?_, ixS_ok (by omega), cvW_ok hb, rn_ok ?_, trivial⟩
  · unfold mu256
    rw [show ((hl s (3 - i / 8) (i % 8) : Nat) : Int) * 256 = ((hl s (3 - i / 8) (i % 8) * 256 : Nat) : Int) by omega, wrap_in (by omega)]
  · unfold adX2
    rw [← Int.natCast_add, wrap_in (by omega)]
    show _ = U (hl s (3 - i / 8) (i % 8) * 256 + sb s (8 * (3 - (3 - i / 8)) + i % 8))
    rw [show 8 * (3 - (3 - i / 8)) + i % 8 = i by omega]
theorem f123_raw (s : ByteArray) (γ : Nat → Nat) :
    outL Try.prog Try.f123.results.toList [] (exec Try.prog (Fx Try.f123) ⟨Ex.start Try.f123.ntmps [(.string s, .no)] [], (List.range 8).map γ, rn 9 (nqX s.size 32) (.bool false) :: (List.range 32).flatMap (rfRecs s), []⟩) =
      outR Try.prog Try.f123.results.toList [] (.tuple #[.agg #[U (hl s 0 8), U (hl s 1 8), U (hl s 2 8), U (hl s 3 8)], I 0]) (exec Try.prog (Fx Try.f123) ⟨Ex.start Try.f123.ntmps [(.string s, .no)] [], (List.range 8).map γ, rn 9 (nqX s.size 32) (.bool false) :: (List.range 32).flatMap (rfRecs s), []⟩) := by kernel_rfl
theorem f123_ok {s : ByteArray} (hs : s.size = 32) : Pure 123 [.string s] (.tuple #[NV (nS s), I 0]) := by
  have e : (.agg #[U (hl s 0 8), U (hl s 1 8), U (hl s 2 8), U (hl s 3 8)] : Value) = NV (nS s) := by
    rw [hl_pl s 0 (by decide), hl_pl s 1 (by decide), hl_pl s 2 (by decide), hl_pl s 3 (by decide)]
    exact NV_mk (dgS s)
  rw [← e]
  exact pure_of Try.func123 rfl 8 [.string s] (rn 9 (nqX s.size 32) (.bool false) :: (List.range 32).flatMap (rfRecs s)) _ (fun w0 => ⟨rn_ok (by rw [hs]; rfl), flat_ok _ _ (fun i hi => rfRecs_ok hs (by simpa using hi) w0)⟩) (fun γ => f123_raw s γ)
theorem f123_len {s : ByteArray} (hs : s.size ≠ 32) : Pure 123 [.string s] (.tuple #[NV 0, I 4]) :=
  pure_of Try.func123 rfl 8 [.string s] [rn 9 (nqX s.size 32) (.bool true)] _ (fun w0 => ⟨rn_ok (nqX_true hs), trivial⟩) (fun γ => by kernel_rfl)

end Go.Proofs.Ytildcmggcbdhpaa
