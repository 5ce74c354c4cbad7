/- Points as bytes: package curve and the document's answer. No conditions but that numbers are below R. -/
import Derived.Test.YtildcmggcbdhpaaBytesC
import Derived.Test.YtildcmggcbdhpaaBytesB
import Derived.Test.YtildcmggcbdhpaaLawTimes
namespace Go.Proofs.Ytildcmggcbdhpaa
open Go.Ex Go.RowKit Lim
set_option maxRecDepth 100000
set_option exponentiation.threshold 600

theorem l0_par (a : Nat) : l0 a % 2 = a % 2 := by
  unfold l0
  have hB : B = 18446744073709551616 := rfl
  rw [hB]
  omega
/-- limb.Select, by a word -/
def maskX (x : Nat) : Value := .int .u64 (IntKind.u64.wrap (0 - bits .and .u64 (x : Int) 1))
theorem maskX_eq {x : Nat} (hx : x < B) : maskX x = if x % 2 = 1 then U 18446744073709551615 else U 0 := by
  unfold maskX
  have e := u64_and_nat x 1 hx (by decide)
  rw [show ((1 : Nat) : Int) = 1 from rfl] at e
  rw [e, Nat.and_one_is_mod]
  have h : x % 2 = 0 ∨ x % 2 = 1 := by omega
  rcases h with h | h
  · rw [h]; rfl
  · rw [h]; rfl
theorem f119_word {x : Nat} (hx : x < B) (a b : Nat) : Pure 119 [U x, NV a, NV b] (NV (if x % 2 = 1 then a else b)) := by
  have hm := maskX_eq hx
  by_cases h : x % 2 = 1
  · rw [if_pos h] at hm ⊢
    exact pure_of Try.func119 rfl 8 [U x, NV a, NV b] [rn 12 (maskX x) (U 18446744073709551615),
      rn 27 (selX 18446744073709551615 (l0 a) (l0 b)) (U (l0 a)), rn 27 (selX 18446744073709551615 (l1 a) (l1 b)) (U (l1 a)), rn 27 (selX 18446744073709551615 (l2 a) (l2 b)) (U (l2 a)), rn 27 (selX 18446744073709551615 (l3 a) (l3 b)) (U (l3 a))] _
      (fun _ => ⟨rn_ok hm, rn_ok (sel_one (l0_lt a) (l0_lt b)), rn_ok (sel_one (l1_lt a) (l1_lt b)), rn_ok (sel_one (l2_lt a) (l2_lt b)), rn_ok (sel_one (l3_lt a) (l3_lt b)), trivial⟩) (fun γ => by kernel_rfl)
  · rw [if_neg h] at hm ⊢
    exact pure_of Try.func119 rfl 8 [U x, NV a, NV b] [rn 12 (maskX x) (U 0),
      rn 27 (selX 0 (l0 a) (l0 b)) (U (l0 b)), rn 27 (selX 0 (l1 a) (l1 b)) (U (l1 b)), rn 27 (selX 0 (l2 a) (l2 b)) (U (l2 b)), rn 27 (selX 0 (l3 a) (l3 b)) (U (l3 b))] _
      (fun _ => ⟨rn_ok hm, rn_ok (sel_zero (l0_lt a) (l0_lt b)), rn_ok (sel_zero (l1_lt a) (l1_lt b)), rn_ok (sel_zero (l2_lt a) (l2_lt b)), rn_ok (sel_zero (l3_lt a) (l3_lt b)), trivial⟩) (fun γ => by kernel_rfl)

theorem rootOf_lt (a : Nat) : rootOf a < P := Nat.mod_lt _ P_pos
theorem evenRoot_lt (a : Nat) : evenRoot a < P := by
  unfold evenRoot
  split
  · exact fsub_lt _ _
  · exact rootOf_lt a
abbrev fI (g h : Nat) : List (Nat × Ent) := fNi g h P P2 Pi rt
/-- (field.Field).Sqrt, of the coordinates' field -/
theorem f85_yes {g h a : Nat} (ha : a < P) (hs : fmul (rootOf a) (rootOf a) = a) : PureAt (fN g h P P2 Pi rt) 85 [PT g, NV a] (.tuple #[NV (evenRoot a), I 0]) := by
  have h122 := f122_ok (g := g) (h := h) (root := rt) montP ha (show rt < R by decide)
  have h80 := f80_ok (g := g) (h := h) (root := rt) montP (rootOf_lt a) (rootOf_lt a)
  have h120 := f120_ok (g := g) (h := h) (r2 := P2) (inv := Pi) (root := rt) (a := 0) P_R P_pos (rootOf_lt a)
  have h119 := f119_word (l0_lt (rootOf a)) (fsub 0 (rootOf a)) (rootOf a)
  rw [l0_par] at h119
  have h80' : PureAt (fN g h P P2 Pi rt) 80 [PT g, NV (rootOf a), NV (rootOf a)] (NV a) := by
    have e : rootOf a * rootOf a % P = a := hs
    rw [e] at h80
    exact h80
  have h122' : PureAt (fN g h P P2 Pi rt) 122 [PT g, NV a, NV rt] (.tuple #[NV (rootOf a), I 0]) := h122
  have h119' : Pure 119 [U (l0 (rootOf a)), NV (fsub 0 (rootOf a)), NV (rootOf a)] (NV (evenRoot a)) := h119
  have h120' : PureAt (fN g h P P2 Pi rt) 120 [PT g, NV 0, NV (rootOf a)] (NV (fsub 0 (rootOf a))) := h120
  generalize evenRoot a = e at *
  generalize fsub 0 (rootOf a) = n at *
  generalize rootOf a = r at *
  exact pureAt_of Try.func85 rfl 8 [(PT g, .at_ 0), (NV a, .no)] (fN g h P P2 Pi rt) [mc 68 [PT g, NV a] (fI g h) (I 0), eqB 21 rt 0 false, mc 122 [PT g, NV a, NV rt] (fI g h) (.tuple #[NV r, I 0]), mc 80 [PT g, NV r, NV r] (fI g h) (NV a), neB 38 a a false,
      mc 120 [PT g, NV 0, NV r] (fI g h) (NV n), pc 119 [U (l0 r), NV n, NV r] (NV e)] _ rfl
    (fun _ => ⟨mc_ok (f68_in P_R ha), eqB_ok (by decide) (by decide) (by decide), mc_ok h122', mc_ok h80', neB_ok (ltR ha) (ltR ha) (by simp), mc_ok h120', pc_ok h119', trivial⟩) (fun γ => by kernel_rfl)
theorem f85_no {g h a : Nat} (ha : a < P) (hs : fmul (rootOf a) (rootOf a) ≠ a) : PureAt (fN g h P P2 Pi rt) 85 [PT g, NV a] (.tuple #[NV 0, I 22]) := by
  have h122 := f122_ok (g := g) (h := h) (root := rt) montP ha (show rt < R by decide)
  have h80 := f80_ok (g := g) (h := h) (root := rt) montP (rootOf_lt a) (rootOf_lt a)
  have h122' : PureAt (fN g h P P2 Pi rt) 122 [PT g, NV a, NV rt] (.tuple #[NV (rootOf a), I 0]) := h122
  have h80' : PureAt (fN g h P P2 Pi rt) 80 [PT g, NV (rootOf a), NV (rootOf a)] (NV (fmul (rootOf a) (rootOf a))) := h80
  have hl : fmul (rootOf a) (rootOf a) < P := fmul_lt _ _
  generalize fmul (rootOf a) (rootOf a) = q at *
  generalize rootOf a = r at *
  exact pureAt_of Try.func85 rfl 8 [(PT g, .at_ 0), (NV a, .no)] (fN g h P P2 Pi rt) [mc 68 [PT g, NV a] (fI g h) (I 0), eqB 21 rt 0 false, mc 122 [PT g, NV a, NV rt] (fI g h) (.tuple #[NV r, I 0]), mc 80 [PT g, NV r, NV r] (fI g h) (NV q), neB 38 q a true] _ rfl
    (fun _ => ⟨mc_ok (f68_in P_R ha), eqB_ok (by decide) (by decide) (by decide), mc_ok h122', mc_ok h80', neB_ok (ltR hl) (ltR ha) (by simp [hs]), trivial⟩) (fun γ => by kernel_rfl)

/-- (field.Field).Decode -/
theorem f84_in {g h : Nat} {s : ByteArray} (hs : s.size = 32) (hn : nS s < P) : PureAt (fN g h P P2 Pi rt) 84 [PT g, .string s] (.tuple #[NV (nS s), I 0]) := by
  have h121 := f121_ok hs
  have h68 := f68_in (g := g) (h := h) (r2 := P2) (inv := Pi) (root := rt) P_R hn
  generalize nS s = n at *
  exact pureAt_of Try.func84 rfl 8 [(PT g, .at_ 0), (.string s, .no)] (fN g h P P2 Pi rt) [pc 121 [.string s] (.tuple #[NV n, I 0]), mc 68 [PT g, NV n] (fI g h) (I 0)] _ rfl (fun _ => ⟨pc_ok h121, mc_ok h68, trivial⟩) (fun γ => by kernel_rfl)
theorem f84_out {g h : Nat} {s : ByteArray} (hs : s.size = 32) (hn : P ≤ nS s) : PureAt (fN g h P P2 Pi rt) 84 [PT g, .string s] (.tuple #[NV 0, I 20]) := by
  have h121 := f121_ok hs
  have h68 := f68_out (g := g) (h := h) (r2 := P2) (inv := Pi) (root := rt) P_R hn (nS_lt s)
  generalize nS s = n at *
  exact pureAt_of Try.func84 rfl 8 [(PT g, .at_ 0), (.string s, .no)] (fN g h P P2 Pi rt) [pc 121 [.string s] (.tuple #[NV n, I 0]), mc 68 [PT g, NV n] (fI g h) (I 20)] _ rfl (fun _ => ⟨pc_ok h121, mc_ok h68, trivial⟩) (fun γ => by kernel_rfl)
/-- wardmoteref02.Field.Decode -/
theorem f86_in {s : ByteArray} (hs : s.size = 32) (hn : nS s < P) : Pure 86 [FV P CP, .string s] (.tuple #[NV (nS s), I 0]) := by
  have h123 := f123_ok hs
  have h46 := f46_ok (m := P) (c := CP) P_R (nS_lt s)
  rw [decide_eq_true hn] at h46
  generalize nS s = n at *
  exact pure_of Try.func86 rfl 8 [FV P CP, .string s] [pc 123 [.string s] (.tuple #[NV n, I 0]), pc 46 [FV P CP, NV n] (.bool true)] _ (fun _ => ⟨pc_ok h123, pc_ok h46, trivial⟩) (fun γ => by kernel_rfl)
theorem f86_out {s : ByteArray} (hs : s.size = 32) (hn : P ≤ nS s) : Pure 86 [FV P CP, .string s] (.tuple #[NV 0, I 20]) := by
  have h123 := f123_ok hs
  have h46 := f46_ok (m := P) (c := CP) P_R (nS_lt s)
  rw [decide_eq_false (by omega)] at h46
  generalize nS s = n at *
  exact pure_of Try.func86 rfl 8 [FV P CP, .string s] [pc 123 [.string s] (.tuple #[NV n, I 0]), pc 46 [FV P CP, NV n] (.bool false)] _ (fun _ => ⟨pc_ok h123, pc_ok h46, trivial⟩) (fun γ => by kernel_rfl)
/-- wardmoteref02.Field.Sqrt -/
def sqHead (a r q : Nat) (b : Bool) : List Rec := [pc 46 [FV P CP, NV a] (.bool true), pc 112 [NV P, NV 1] (.tuple #[NV (P + 1), .bool false]), pc 124 [FV P CP, NV a, NV rt] (NV r), pc 66 [FV P CP, NV r, NV r] (NV q), neB 60 q a b]
theorem sqHead_ok {a : Nat} (ha : a < P) {b : Bool} (hb : decide (fmul (rootOf a) (rootOf a) = a) = !b) (w : World) : RecsOk w (sqHead a (rootOf a) (fmul (rootOf a) (rootOf a)) b) := by
  have h46 := f46_ok (m := P) (c := CP) P_R (ltR ha)
  rw [decide_eq_true ha] at h46
  have h112 := f112_ok (a := P) (b := 1) P_R (by decide)
  rw [show (P + 1) % R = P + 1 by decide, show decide (R ≤ P + 1) = false by decide] at h112
  have h124 := f124_ok (e := rt) fcP (by decide) (ltR ha) (by decide)
  have h66 := f66_ok fcP (ltR (rootOf_lt a)) (ltR (rootOf_lt a))
  exact ⟨pc_ok h46, pc_ok h112, pc_ok h124, pc_ok h66, neB_ok (ltR (fmul_lt _ _)) (ltR ha) hb, trivial⟩
theorem f87_no {a : Nat} (ha : a < P) (hs : fmul (rootOf a) (rootOf a) ≠ a) : Pure 87 [FV P CP, NV a, .bool true] (.tuple #[NV 0, I 22]) := by
  have hh := fun w => sqHead_ok ha (b := true) (by simp [hs]) w
  generalize fmul (rootOf a) (rootOf a) = q at *
  generalize rootOf a = r at *
  exact pure_of Try.func87 rfl 8 [FV P CP, NV a, .bool true] (sqHead a r q true) _ hh (fun γ => by kernel_rfl)
theorem f87_yes {a : Nat} (ha : a < P) (hs : fmul (rootOf a) (rootOf a) = a) : Pure 87 [FV P CP, NV a, .bool true] (.tuple #[NV (evenRoot a), I 0]) := by
  have hh := fun w => sqHead_ok ha (b := false) (by simp [hs]) w
  have hl := rootOf_lt a
  have hl0 : l0 (rootOf a) % 2 = rootOf a % 2 := l0_par _
  have h70 := f70_ok (m := P) (c := CP) (a := 0) P_R P_pos hl
  have h70' : Pure 70 [FV P CP, NV 0, NV (rootOf a)] (NV (fsub 0 (rootOf a))) := h70
  have hbit : rootOf a % 2 = 0 ∨ rootOf a % 2 = 1 := by omega
  unfold evenRoot
  generalize fmul (rootOf a) (rootOf a) = q at *
  generalize rootOf a = r at *
  rcases hbit with h0 | h1
  · rw [if_neg (by omega)]
    rw [h0] at hl0
    exact pure_of Try.func87 rfl 8 [FV P CP, NV a, .bool true] (sqHead a r q false ++ [rn 64 (remX (l0 r)) (U 0)]) _ (fun w => (hh w).append ⟨rn_ok (by rw [remX_eq, hl0]), trivial⟩) (fun γ => by kernel_rfl)
  · rw [if_pos h1]
    rw [h1] at hl0
    generalize fsub 0 r = n at *
    exact pure_of Try.func87 rfl 8 [FV P CP, NV a, .bool true] (sqHead a r q false ++ [rn 64 (remX (l0 r)) (U 1), pc 70 [FV P CP, NV 0, NV r] (NV n)]) _ (fun w => (hh w).append ⟨rn_ok (by rw [remX_eq, hl0]), pc_ok h70', trivial⟩) (fun γ => by kernel_rfl)

end Go.Proofs.Ytildcmggcbdhpaa
