/- Plain: numbers and their bytes; square roots. No program in sight but its formulas. -/
import Derived.Test.YtildcmggcbdhpaaBytesF
import Derived.Test.YtildcmggcbdhpaaEcP
namespace Go.Proofs.Ytildcmggcbdhpaa
open Go.Ex Lim
set_option maxRecDepth 100000
set_option exponentiation.threshold 600

def bsOf (l : List Nat) : ByteArray := ⟨(l.map UInt8.ofNat).toArray⟩
theorem strV_eq (l : List Nat) : strV l = .string (bsOf l) := rfl
theorem bsOf_size (l : List Nat) : (bsOf l).size = l.length := by
  show ((l.map UInt8.ofNat).toArray).size = _
  simp
theorem sb_get {s : ByteArray} {k : Nat} (h : k < s.size) : sb s k = (s[k]'h).toNat := by unfold sb; rw [ByteArray.getElem?_lt' s k h]; rfl
theorem sb_data (s : ByteArray) (k : Nat) : sb s k = (s.data[k]?.getD 0).toNat := by
  by_cases h : k < s.size
  · rw [sb_get h]
    have h' : k < s.data.size := h
    rw [Array.getElem?_eq_getElem h']
    rfl
  · have h' : ¬ k < s.data.size := h
    unfold sb
    rw [ByteArray.getElem?_ge' s k h, Array.getElem?_eq_none (by omega)]
theorem sb_bsOf {l : List Nat} (hl : ∀ n ∈ l, n < 256) {k : Nat} {n : Nat} (h : l[k]? = some n) : sb (bsOf l) k = n := by
  rw [sb_data]
  show (((l.map UInt8.ofNat).toArray)[k]?.getD 0).toNat = n
  rw [List.getElem?_toArray, List.getElem?_map, h]
  show (UInt8.ofNat n).toNat = n
  rw [UInt8.toNat_ofNat', Nat.mod_eq_of_lt (hl n (List.mem_of_getElem? h))]
theorem bs_ext {s t : ByteArray} (hs : s.size = t.size) (h : ∀ k, k < s.size → sb s k = sb t k) : s = t := by
  have e : s.data = t.data := by
    apply Array.ext hs
    intro i h1 h2
    have := h i h1
    rw [sb_data, sb_data, Array.getElem?_eq_getElem h1, Array.getElem?_eq_getElem h2] at this
    exact UInt8.toNat_inj.1 this
  cases s
  cases t
  simp only at e
  rw [e]

theorem be_len (a : Nat) : (be a).length = 32 := by unfold be; simp
theorem be_lt (a : Nat) : ∀ n ∈ be a, n < 256 := fun n hn => by
  unfold be at hn
  rw [List.mem_map] at hn
  obtain ⟨i, _, rfl⟩ := hn
  exact by_lt _ _
theorem be_get (a : Nat) {k : Nat} (h : k < 32) : (be a)[k]? = some (by_ a (31 - k)) := by
  unfold be
  rw [List.getElem?_map, List.getElem?_range h]
  rfl

theorem by_word (a d : Nat) {t : Nat} (ht : t < 8) : by_ a (8 * d + t) = a / B ^ d % B / 2 ^ (8 * t) % 256 := (byte_d a ht).symm
theorem word_bytes {y : Nat} (hy : y < B) : y = y / 2 ^ (8 * 0) % 256 * 2 ^ (8 * 0) + y / 2 ^ (8 * 1) % 256 * 2 ^ (8 * 1) + y / 2 ^ (8 * 2) % 256 * 2 ^ (8 * 2) + y / 2 ^ (8 * 3) % 256 * 2 ^ (8 * 3) +
    y / 2 ^ (8 * 4) % 256 * 2 ^ (8 * 4) + y / 2 ^ (8 * 5) % 256 * 2 ^ (8 * 5) + y / 2 ^ (8 * 6) % 256 * 2 ^ (8 * 6) + y / 2 ^ (8 * 7) % 256 * 2 ^ (8 * 7) := by
  have hB : B = 18446744073709551616 := rfl
  rw [hB] at hy
  simp only [Nat.reduceMul, Nat.reducePow]
  omega
theorem pl_by {s : ByteArray} {a d : Nat} (h : ∀ t, t < 8 → sb s (31 - (8 * d + t)) = by_ a (8 * d + t)) : pl s d 8 = a / B ^ d % B := by
  have hy : a / B ^ d % B < B := Nat.mod_lt _ B_pos
  have e := word_bytes hy
  simp only [pl]
  rw [h 0 (by decide), h 1 (by decide), h 2 (by decide), h 3 (by decide), h 4 (by decide), h 5 (by decide), h 6 (by decide), h 7 (by decide)]
  simp only [by_word a d (show 0 < 8 by decide), by_word a d (show 1 < 8 by decide), by_word a d (show 2 < 8 by decide), by_word a d (show 3 < 8 by decide), by_word a d (show 4 < 8 by decide), by_word a d (show 5 < 8 by decide), by_word a d (show 6 < 8 by decide), by_word a d (show 7 < 8 by decide)]
  rw [Nat.zero_add]
  exact e.symm
/-- the number that a number's bytes are -/
theorem nS_be {a : Nat} (ha : a < R) : nS (bsOf (be a)) = a := by
  have key : ∀ d, d < 4 → pl (bsOf (be a)) d 8 = a / B ^ d % B := fun d hd => pl_by fun t ht => by
    rw [sb_bsOf (be_lt a) (be_get a (show 31 - (8 * d + t) < 32 by omega)), show 31 - (31 - (8 * d + t)) = 8 * d + t by omega]
  unfold nS
  rw [key 0 (by decide), key 1 (by decide), key 2 (by decide), key 3 (by decide), ← l0_eq, ← l1_eq, ← l2_eq, ← l3_eq, val4, ← R_eq, Nat.mod_eq_of_lt ha]
theorem byte_pl {b0 b1 b2 b3 b4 b5 b6 b7 : Nat} (h0 : b0 < 256) (h1 : b1 < 256) (h2 : b2 < 256) (h3 : b3 < 256) (h4 : b4 < 256) (h5 : b5 < 256) (h6 : b6 < 256) (h7 : b7 < 256) (t : Nat) (ht : t < 8) :
    (0 + b0 * 2 ^ (8 * 0) + b1 * 2 ^ (8 * 1) + b2 * 2 ^ (8 * 2) + b3 * 2 ^ (8 * 3) + b4 * 2 ^ (8 * 4) + b5 * 2 ^ (8 * 5) + b6 * 2 ^ (8 * 6) + b7 * 2 ^ (8 * 7)) / 2 ^ (8 * t) % 256 = [b0, b1, b2, b3, b4, b5, b6, b7].getD t 0 := by
  match t, ht with
  | 0, _ | 1, _ | 2, _ | 3, _ | 4, _ | 5, _ | 6, _ | 7, _ =>
    simp only [Nat.reduceMul, Nat.reducePow, List.getD_cons_zero, List.getD_cons_succ]
    omega
theorem by_pl (s : ByteArray) (d : Nat) {t : Nat} (ht : t < 8) : pl s d 8 / 2 ^ (8 * t) % 256 = sb s (31 - (8 * d + t)) := by
  have h := byte_pl (sb_lt s (31 - (8 * d + 0))) (sb_lt s (31 - (8 * d + 1))) (sb_lt s (31 - (8 * d + 2))) (sb_lt s (31 - (8 * d + 3))) (sb_lt s (31 - (8 * d + 4))) (sb_lt s (31 - (8 * d + 5))) (sb_lt s (31 - (8 * d + 6))) (sb_lt s (31 - (8 * d + 7))) t ht
  have e : pl s d 8 / 2 ^ (8 * t) % 256 = _ := h
  rw [e]
  match t, ht with
  | 0, _ | 1, _ | 2, _ | 3, _ | 4, _ | 5, _ | 6, _ | 7, _ => rfl
/-- the bytes of the number that bytes are -/
theorem be_nS {s : ByteArray} (hs : s.size = 32) : bsOf (be (nS s)) = s := by
  have hd := digs_val _ (dgS s)
  rw [show [pl s 0 8, pl s 1 8, pl s 2 8, pl s 3 8].length = 4 from rfl, digs4] at hd
  simp only [List.cons.injEq, and_true] at hd
  obtain ⟨e0, e1, e2, e3⟩ := hd
  have ew : ∀ d, d < 4 → nS s / B ^ d % B = pl s d 8
    | 0, _ => by rw [← l0_eq]; exact e0
    | 1, _ => by rw [← l1_eq]; exact e1
    | 2, _ => by rw [← l2_eq]; exact e2
    | 3, _ => by rw [← l3_eq]; exact e3
  refine bs_ext (by rw [bsOf_size, be_len, hs]) (fun k hk => ?_)
  rw [bsOf_size, be_len] at hk
  rw [sb_bsOf (be_lt _) (be_get _ hk)]
  have e : 31 - k = 8 * ((31 - k) / 8) + (31 - k) % 8 := by omega
  rw [e, by_word _ _ (by omega), ew _ (by omega), by_pl s _ (by omega)]
  congr 1
  omega

/-- the root that is even -/
def rootOf (a : Nat) : Nat := a ^ rt % P
def evenRoot (a : Nat) : Nat := if rootOf a % 2 = 1 then fsub 0 (rootOf a) else rootOf a
theorem root_sq {y : Nat} (hy : y < P) : fmul (rootOf (fmul y y)) (rootOf (fmul y y)) = fmul y y := by
  unfold rootOf fmul
  by_cases h0 : y = 0
  · subst h0
    have hrt : 0 < rt := by decide
    rw [Nat.zero_mul, Nat.zero_mod, Nat.zero_pow hrt]
    rfl
  · have hd : ¬ P ∣ y := fun h => h0 (Nat.eq_zero_of_dvd_of_lt h hy)
    have h1 : y ^ (P - 1) % P = 1 := Ec.fermat (p := P) Ec.pr_P hd
    rw [← Nat.mul_mod, ← Nat.pow_add, ← Nat.pow_mod, ← Nat.pow_two, ← Nat.pow_mul, show 2 * (rt + rt) = (P - 1) + 2 by decide, Nat.pow_add, Nat.mul_mod, h1, Nat.one_mul, Nat.mod_mod]
theorem sq_eq {a b : Nat} (ha : a < P) (hb : b < P) (h : fmul a a = fmul b b) : b = a ∨ b = fsub 0 a := by
  have e : toK a * toK a = toK b * toK b := by rw [← toK_fmul, ← toK_fmul, h]
  by_cases h1 : toK a + toK b = 0
  · right
    apply toK_inj hb (fsub_lt _ _)
    rw [toK_fsub ha, toK_zero]
    grind
  · left
    by_cases h2 : toK a - toK b = 0
    · apply toK_inj hb ha
      grind
    · exact absurd (by grind) (isInv.dom h1 h2)
theorem fsub_par {a : Nat} (ha : a < P) (h0 : a ≠ 0) : fsub 0 a % 2 = 1 - a % 2 := by
  have hP : P % 2 = 1 := by decide
  have e : (P - a) % P = P - a := Nat.mod_eq_of_lt (by omega)
  unfold fsub
  rw [Nat.zero_add, e]
  omega
theorem fsub_fsub {a : Nat} (ha : a < P) : fsub 0 (fsub 0 a) = a := by
  unfold fsub
  by_cases h0 : a = 0
  · subst h0; decide
  · have e : (P - a) % P = P - a := Nat.mod_eq_of_lt (by omega)
    have e2 : (P - (P - a)) % P = P - (P - a) := Nat.mod_eq_of_lt (by omega)
    rw [Nat.zero_add, e, e2]
    omega
/-- a number that is no 0, by its square and whether it is odd -/
theorem root_of {y : Nat} (hy : y < P) (h0 : y ≠ 0) : y = if y % 2 = 1 then fsub 0 (evenRoot (fmul y y)) else evenRoot (fmul y y) := by
  have hr := root_sq hy
  have hl : rootOf (fmul y y) < P := Nat.mod_lt _ P_pos
  have h := sq_eq hl hy hr
  unfold evenRoot
  generalize rootOf (fmul y y) = r at *
  by_cases hr0 : r = 0
  · subst hr0
    rcases h with h | h
    · exact absurd h h0
    · rw [show fsub 0 0 = 0 by decide] at h; exact absurd h h0
  · have hp := fsub_par hl hr0
    rcases h with h | h
    · subst h
      by_cases h1 : y % 2 = 1
      · rw [if_pos h1, if_pos h1, fsub_fsub hl]
      · rw [if_neg h1, if_neg h1]
    · subst h
      by_cases h1 : r % 2 = 1
      · rw [if_neg (by omega), if_pos h1]
      · rw [if_pos (by omega), if_neg h1]

end Go.Proofs.Ytildcmggcbdhpaa
