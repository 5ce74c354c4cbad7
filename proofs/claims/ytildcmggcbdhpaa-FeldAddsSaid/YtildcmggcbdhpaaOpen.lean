/- Arguments: numbers and points, as they come in. No conditions. -/
import Derived.Test.YtildcmggcbdhpaaCurveD
import Derived.ProofKit
import Derived.Below
namespace Go.Proofs.Ytildcmggcbdhpaa
open Go.Ex Lim
set_option maxRecDepth 100000

theorem own : ownKnob Try.prog.godebug = none := by kernel_rfl
theorem laidOut : laidOutB Try.prog = true := by kernel_rfl

theorem cell_u64 {w : World} {r : Reach} {b : Nat} {v : Value} (h : Cell.okWide Try.prog w r b 22 v) : ∃ n : Nat, n < B ∧ v = U n := by
  have hu : Try.prog.underlying 22 = some (.int .u64) := by kernel_rfl
  cases v with
  | int k n =>
    simp only [Cell.okWide, Cell.ok, hu] at h
    obtain ⟨rfl, h1⟩ := h
    simp only [IntKind.has, IntKind.min, IntKind.max, IntKind.signed, IntKind.bits] at h1
    refine ⟨n.toNat, ?_, ?_⟩
    · unfold B
      simp at h1
      omega
    · show Value.int .u64 n = .int .u64 (n.toNat : Int)
      simp at h1
      rw [Int.toNat_of_nonneg (by omega)]
  | _ => simp [Cell.okWide, Cell.ok, hu] at h
theorem cell_bool {w : World} {r : Reach} {b : Nat} {v : Value} (h : Cell.okWide Try.prog w r b 4 v) : ∃ q : Bool, v = .bool q := by
  have hu : Try.prog.underlying 4 = some .bool := by kernel_rfl
  cases v with
  | bool q => exact ⟨q, rfl⟩
  | _ => simp [Cell.okWide, Cell.ok, hu] at h

theorem num_of {a b c d : Nat} (ha : a < B) (hb : b < B) (hc : c < B) (hd : d < B) : ∃ n, n < R ∧ l0 n = a ∧ l1 n = b ∧ l2 n = c ∧ l3 n = d := by
  have h : Dig [a, b, c, d] := Dig.cons ha (Dig.cons hb (Dig.cons hc (Dig.cons hd Dig.nil)))
  have h1 := digs_val _ h
  rw [show [a, b, c, d].length = 4 from rfl, digs4] at h1
  simp only [List.cons.injEq, and_true] at h1
  have h2 := val_lt _ h
  rw [show [a, b, c, d].length = 4 from rfl, ← R_eq] at h2
  exact ⟨_, h2, h1⟩

theorem size9 {cs : Array Value} (h : cs.size = 9) : ∃ c0 c1 c2 c3 c4 c5 c6 c7 c8, cs = #[c0, c1, c2, c3, c4, c5, c6, c7, c8] := by
  obtain ⟨l⟩ := cs
  match l, h with
  | [c0, c1, c2, c3, c4, c5, c6, c7, c8], _ => exact ⟨c0, c1, c2, c3, c4, c5, c6, c7, c8, rfl⟩
theorem size4 {cs : Array Value} (h : cs.size = 4) : ∃ c0 c1 c2 c3, cs = #[c0, c1, c2, c3] := by
  obtain ⟨l⟩ := cs
  match l, h with
  | [c0, c1, c2, c3], _ => exact ⟨c0, c1, c2, c3, rfl⟩

/-- a point, as it comes in -/
theorem open_pt {w : World} {r : Reach} {b : Nat} {v : Value} (h : Value.okWide Try.prog w r b 26 v) : ∃ x y inf, x < R ∧ y < R ∧ v = PV x y inf := by
  have hu : Try.prog.underlying 26 = some (.struct (Try.prog.fieldsOf 26)) := by kernel_rfl
  have hc : Try.prog.cellsOf 26 = 9 := by kernel_rfl
  have ht : Try.prog.cellTypes Try.prog.depth 26 = some [22, 22, 22, 22, 22, 22, 22, 22, 4] := by kernel_rfl
  unfold Value.okWide at h
  rw [hu] at h
  obtain ⟨cs, rfl, hs, ts, h1, _, h2⟩ := h
  rw [hc] at hs
  rw [ht] at h1
  cases h1
  obtain ⟨c0, c1, c2, c3, c4, c5, c6, c7, c8, rfl⟩ := size9 hs
  have hn : ∀ i c, i < 8 → #[c0, c1, c2, c3, c4, c5, c6, c7, c8][i]? = some c → ∃ n : Nat, n < B ∧ c = U n := fun i c hi hic => by
    obtain ⟨u, hu1, hu2⟩ := h2 i c hic
    have : u = 22 := by
      have h9 : i % [22, 22, 22, 22, 22, 22, 22, 22, 4].length = i := Nat.mod_eq_of_lt (by show i < 9; omega)
      rw [h9] at hu1
      match i, hi with
      | 0, _ | 1, _ | 2, _ | 3, _ | 4, _ | 5, _ | 6, _ | 7, _ => simpa using hu1.symm
    subst this
    exact cell_u64 hu2
  obtain ⟨a0, ha0, rfl⟩ := hn 0 c0 (by omega) rfl
  obtain ⟨a1, ha1, rfl⟩ := hn 1 c1 (by omega) rfl
  obtain ⟨a2, ha2, rfl⟩ := hn 2 c2 (by omega) rfl
  obtain ⟨a3, ha3, rfl⟩ := hn 3 c3 (by omega) rfl
  obtain ⟨b0, hb0, rfl⟩ := hn 4 c4 (by omega) rfl
  obtain ⟨b1, hb1, rfl⟩ := hn 5 c5 (by omega) rfl
  obtain ⟨b2, hb2, rfl⟩ := hn 6 c6 (by omega) rfl
  obtain ⟨b3, hb3, rfl⟩ := hn 7 c7 (by omega) rfl
  obtain ⟨u, hu1, hu2⟩ := h2 8 c8 rfl
  have : u = 4 := by simpa using hu1.symm
  subst this
  obtain ⟨q, rfl⟩ := cell_bool hu2
  obtain ⟨x, hx, rfl, rfl, rfl, rfl⟩ := num_of ha0 ha1 ha2 ha3
  obtain ⟨y, hy, rfl, rfl, rfl, rfl⟩ := num_of hb0 hb1 hb2 hb3
  exact ⟨x, y, q, hx, hy, rfl⟩

/-- a number, as it comes in -/
theorem open_num {w : World} {r : Reach} {b : Nat} {v : Value} (h : Value.okWide Try.prog w r b 24 v) : ∃ x, x < R ∧ v = NV x := by
  have hu : Try.prog.underlying 24 = some (.array 4 22) := by kernel_rfl
  have hc : Try.prog.cellsOf 24 = 4 := by kernel_rfl
  have ht : Try.prog.cellTypes Try.prog.depth 24 = some [22, 22, 22, 22] := by kernel_rfl
  unfold Value.okWide at h
  rw [hu] at h
  obtain ⟨cs, rfl, hs, ts, h1, _, h2⟩ := h
  rw [hc] at hs
  rw [ht] at h1
  cases h1
  obtain ⟨c0, c1, c2, c3, rfl⟩ := size4 hs
  have hn : ∀ i c, i < 4 → #[c0, c1, c2, c3][i]? = some c → ∃ n : Nat, n < B ∧ c = U n := fun i c hi hic => by
    obtain ⟨u, hu1, hu2⟩ := h2 i c hic
    have : u = 22 := by
      have h9 : i % [22, 22, 22, 22].length = i := Nat.mod_eq_of_lt (by show i < 4; omega)
      rw [h9] at hu1
      match i, hi with
      | 0, _ | 1, _ | 2, _ | 3, _ => simpa using hu1.symm
    subst this
    exact cell_u64 hu2
  obtain ⟨a0, ha0, rfl⟩ := hn 0 c0 (by omega) rfl
  obtain ⟨a1, ha1, rfl⟩ := hn 1 c1 (by omega) rfl
  obtain ⟨a2, ha2, rfl⟩ := hn 2 c2 (by omega) rfl
  obtain ⟨a3, ha3, rfl⟩ := hn 3 c3 (by omega) rfl
  obtain ⟨x, hx, rfl, rfl, rfl, rfl⟩ := num_of ha0 ha1 ha2 ha3
  exact ⟨x, hx, rfl⟩

/-- a whole number, as it comes in -/
theorem open_int {w : World} {r : Reach} {b : Nat} {v : Value} (h : Value.okWide Try.prog w r b 3 v) : ∃ n : Int, v = I n := by
  have hu : Try.prog.underlying 3 = some (.int .i64) := by kernel_rfl
  unfold Value.okWide at h
  rw [hu] at h
  cases v with
  | int k n =>
    simp only [Cell.okWide, Cell.ok, hu] at h
    obtain ⟨rfl, _⟩ := h
    exact ⟨n, rfl⟩
  | _ => simp [Cell.okWide, Cell.ok, hu] at h

/-- a witness's point -/
def wPt : Value := .agg #[.int .u64 0, .int .u64 0, .int .u64 0, .int .u64 0, .int .u64 0, .int .u64 0, .int .u64 0, .int .u64 0, .bool false]
def wNum : Value := .agg #[.int .u64 0, .int .u64 0, .int .u64 0, .int .u64 0]

end Go.Proofs.Ytildcmggcbdhpaa
