/- Points as bytes: encoding and decoding, both ways. No conditions but that numbers are below R. -/
import Derived.Test.YtildcmggcbdhpaaCurveH
import Derived.Test.YtildcmggcbdhpaaLawCounts
import Derived.Laws.Strings
import Derived.Laws.Slices
namespace Go.Proofs.Ytildcmggcbdhpaa
open Go.Ex Go.RowKit Lim
set_option maxRecDepth 100000
set_option exponentiation.threshold 600

/-- a text as it is -/
def SV (s : ByteArray) : Value := .string s
def ixV (d : Nat) (s : ByteArray) (k v : Nat) : Rec := opF d (Instr.index 9 (.string s) (.int .i64 (k : Int))) (Uy v)
theorem ixV_ok {w0 : World} {d k v : Nat} {s : ByteArray} (h : k < s.size) (hv : sb s k = v) : (ixV d s k v).Ok Try.prog w0 := by
  subst hv
  exact ixS_ok h
def ccF (d : Nat) (a b c : ByteArray) : Rec := opF d (do eqGuard .add 9 (.tmp 0) (.tmp 0) (.string a) (.string b); binOp .add 9 (.string a) (.string b)) (.string c)
theorem ccF_ok {w0 : World} {d : Nat} {a b : ByteArray} (h : a.size + b.size < 1000000) : (ccF d a b (a ++ b)).Ok Try.prog w0 := opF_ok fun w => by
  have hg : (eqGuard .add 9 (.tmp 0) (.tmp 0) (.string a) (.string b)).run Try.prog w = .ok () w := by kernel_rfl
  rw [Sem.run_bind, hg, Result.andThen_ok, binOp_string_add]
  unfold Op.stringOp
  have hm : ¬ (((a.size + b.size : Nat) : Int) > IntKind.i64.max) := by
    have : IntKind.i64.max = 9223372036854775807 := by decide
    omega
  simp only [if_neg hm]
  rfl
theorem bs_inj {a b : ByteArray} (h : a.data.toList = b.data.toList) : a = b := by
  cases a
  cases b
  simp only [Array.toList_inj] at h
  rw [h]
def neT (d : Nat) (a b : ByteArray) (q : Bool) : Rec := opF d (do eqGuard .neq 9 (.tmp 0) (.tmp 0) (.string a) (.string b); binOp .neq 9 (.string a) (.string b)) (.bool q)
theorem neT_ok {w0 : World} {d : Nat} {a b : ByteArray} {q : Bool} (h : q = true ↔ a ≠ b) : (neT d a b q).Ok Try.prog w0 := opF_ok fun w => by
  have hg : (eqGuard .neq 9 (.tmp 0) (.tmp 0) (.string a) (.string b)).run Try.prog w = .ok () w := by kernel_rfl
  rw [Sem.run_bind, hg, Result.andThen_ok, binOp_string_neq, ByteArray.toList_eq, ByteArray.toList_eq]
  have e : (!(a.data.toList == b.data.toList)) = q := by
    rw [Bool.eq_iff_iff, h]
    simp only [Bool.not_eq_true', beq_eq_false_iff_ne, ne_eq]
    constructor
    · intro h1 h2; exact h1 (by rw [h2])
    · intro h1 h2; exact h1 (bs_inj h2)
  rw [e]
  rfl
theorem bsOf_cons (n : Nat) (l : List Nat) : bsOf [n] ++ bsOf l = bsOf (n :: l) := by
  apply bs_inj
  show ((bsOf [n]) ++ (bsOf l)).data.toList = _
  rw [ByteArray.data_append]
  simp [bsOf]

def zeros33 : List Nat := List.replicate 33 0
/-- a point's bytes -/
def encL (p : W9) : List Nat := if p.inf then zeros33 else (2 + p.y % 2) :: be p.x
def encB (p : W9) : ByteArray := bsOf (encL p)
theorem encL_len (p : W9) : (encL p).length = 33 := by
  unfold encL
  split
  · rfl
  · rw [List.length_cons, be_len]

def andX (x : Nat) : Value := .int .u64 (bits .and .u64 (x : Int) 1)
theorem andX_eq {x : Nat} (hx : x < B) : andX x = U (x % 2) := by
  unfold andX
  have e := u64_and_nat x 1 hx (by decide)
  rw [show ((1 : Nat) : Int) = 1 from rfl] at e
  rw [e, Nat.and_one_is_mod]
def rowE (g : Nat) (l : List Nat) : Ent := ⟨g, u8s l, [], 5, true⟩
theorem tsR_ok {w0 : World} {d j : Nat} {l : List Nat} {cap : Nat} : (tsF d j (fun σ => rowE (σ j) l) l cap).Ok Try.prog w0 := fun σ _ _ hn => run_val (run_ts (e := rowE (σ j) l) (hn _ List.mem_cons_self) (fun _ _ hk => hk))

/-- curve.Encode -/
theorem f33_yes {p : W9} (hp : isPt p.x p.y p.inf = true) : Pure 33 [wv p] (.tuple #[SV (encB p), I 0]) := by
  have h21 := f21_yes hp
  obtain ⟨x, y, inf⟩ := p
  cases inf
  · have h82 := f82_ok x
    have hc := fun b : Nat => bsOf_cons (2 + b) (be x)
    have hs : (bsOf (be x)).size = 32 := by rw [bsOf_size, be_len]
    have hcc : ∀ (w0 : World) (b : Nat), (ccF 25 (bsOf [2 + b]) (bsOf (be x)) (bsOf ((2 + b) :: be x))).Ok Try.prog w0 := fun w0 b => by
      rw [← hc b]
      exact ccF_ok (by rw [hs, bsOf_size]; show 1 + 32 < 1000000; decide)
    have ha := andX_eq (l0_lt y)
    rw [l0_par] at ha
    have hb : y % 2 = 0 ∨ y % 2 = 1 := by omega
    rw [strV_eq] at h82
    rcases hb with hb | hb
    · have e : encB ⟨x, y, false⟩ = bsOf ((2 + 0) :: be x) := by unfold encB encL; simp only [hb]; rfl
      rw [e]
      rw [hb] at ha
      have hcc := fun w0 => hcc w0 0
      generalize bsOf ((2 + 0) :: be x) = r at *
      generalize bsOf (be x) = bx at *
      exact pure_of Try.func33 rfl 8 [PV x y false] [pc 21 [PV x y false] (I 0), rn 17 (andX (l0 y)) (U 0), tsF 21 1 (fun σ => rowE (σ 1) [2 + 0]) [2 + 0] 1, pc 82 [NV x] (SV bx), ccF 25 (bsOf [2 + 0]) bx r] _
        (fun w0 => ⟨pc_ok h21, rn_ok ha, tsR_ok, pc_ok h82, hcc w0, trivial⟩) (fun γ => by kernel_rfl)
    · have e : encB ⟨x, y, false⟩ = bsOf ((2 + 1) :: be x) := by unfold encB encL; simp only [hb]; rfl
      rw [e]
      rw [hb] at ha
      have hcc := fun w0 => hcc w0 1
      generalize bsOf ((2 + 1) :: be x) = r at *
      generalize bsOf (be x) = bx at *
      exact pure_of Try.func33 rfl 8 [PV x y false] [pc 21 [PV x y false] (I 0), rn 17 (andX (l0 y)) (U 1), tsF 21 1 (fun σ => rowE (σ 1) [2 + 1]) [2 + 1] 1, pc 82 [NV x] (SV bx), ccF 25 (bsOf [2 + 1]) bx r] _
        (fun w0 => ⟨pc_ok h21, rn_ok ha, tsR_ok, pc_ok h82, hcc w0, trivial⟩) (fun γ => by kernel_rfl)
  · exact pure_of Try.func33 rfl 8 [PV x y true] [pc 21 [PV x y true] (I 0), tsF 13 1 (fun σ => rowE (σ 1) zeros33) zeros33 33] _ (fun w0 => ⟨pc_ok h21, tsR_ok, trivial⟩) (fun γ => by kernel_rfl)
theorem f33_no {p : W9} (hl : p.lt) (hp : isPt p.x p.y p.inf = false) : Pure 33 [wv p] (.tuple #[SV ⟨#[]⟩, I 30]) :=
  pure_of Try.func33 rfl 8 [wv p] [pc 21 [wv p] (I 30)] _ (fun w0 => ⟨pc_ok (f21_no hl.1 hl.2 hp), trivial⟩) (fun γ => by kernel_rfl)
/-- wardmoteref03.Encode -/
theorem f34_yes {p : W9} (hp : isPt p.x p.y p.inf = true) : Pure 34 [wv p] (.tuple #[SV (encB p), I 0]) := by
  obtain ⟨hxP, hyP⟩ := valid_lt hp
  have h20 := f20_is (ltR hxP) (ltR hyP) hp
  obtain ⟨x, y, inf⟩ := p
  cases inf
  · have h83 := f83_ok x
    have hc := fun b : Nat => bsOf_cons (2 + b) (be x)
    have hs : (bsOf (be x)).size = 32 := by rw [bsOf_size, be_len]
    have hcc : ∀ (w0 : World) (b : Nat), (ccF 22 (bsOf [2 + b]) (bsOf (be x)) (bsOf ((2 + b) :: be x))).Ok Try.prog w0 := fun w0 b => by
      rw [← hc b]
      exact ccF_ok (by rw [hs, bsOf_size]; show 1 + 32 < 1000000; decide)
    have ha := remX_eq (l0 y)
    rw [l0_par] at ha
    have hb : y % 2 = 0 ∨ y % 2 = 1 := by omega
    rw [strV_eq] at h83
    rcases hb with hb | hb
    · have e : encB ⟨x, y, false⟩ = bsOf ((2 + 0) :: be x) := by unfold encB encL; simp only [hb]; rfl
      rw [e]
      rw [hb] at ha
      have hcc := fun w0 => hcc w0 0
      generalize bsOf ((2 + 0) :: be x) = r at *
      generalize bsOf (be x) = bx at *
      exact pure_of Try.func34 rfl 8 [PV x y false] [pc 20 [PV x y false] (.bool true), rn 14 (remX (l0 y)) (U 0), tsF 18 1 (fun σ => rowE (σ 1) [2 + 0]) [2 + 0] 1, pc 83 [NV x] (SV bx), ccF 22 (bsOf [2 + 0]) bx r] _
        (fun w0 => ⟨pc_ok h20, rn_ok ha, tsR_ok, pc_ok h83, hcc w0, trivial⟩) (fun γ => by kernel_rfl)
    · have e : encB ⟨x, y, false⟩ = bsOf ((2 + 1) :: be x) := by unfold encB encL; simp only [hb]; rfl
      rw [e]
      rw [hb] at ha
      have hcc := fun w0 => hcc w0 1
      generalize bsOf ((2 + 1) :: be x) = r at *
      generalize bsOf (be x) = bx at *
      exact pure_of Try.func34 rfl 8 [PV x y false] [pc 20 [PV x y false] (.bool true), rn 14 (remX (l0 y)) (U 1), tsF 18 1 (fun σ => rowE (σ 1) [2 + 1]) [2 + 1] 1, pc 83 [NV x] (SV bx), ccF 22 (bsOf [2 + 1]) bx r] _
        (fun w0 => ⟨pc_ok h20, rn_ok ha, tsR_ok, pc_ok h83, hcc w0, trivial⟩) (fun γ => by kernel_rfl)
  · exact pure_of Try.func34 rfl 8 [PV x y true] [pc 20 [PV x y true] (.bool true), tsF 10 1 (fun σ => rowE (σ 1) zeros33) zeros33 33] _ (fun w0 => ⟨pc_ok h20, tsR_ok, trivial⟩) (fun γ => by kernel_rfl)
theorem f34_no {p : W9} (hl : p.lt) (hp : isPt p.x p.y p.inf = false) : Pure 34 [wv p] (.tuple #[SV ⟨#[]⟩, I 30]) :=
  pure_of Try.func34 rfl 8 [wv p] [pc 20 [wv p] (.bool false)] _ (fun w0 => ⟨pc_ok (f20_is hl.1 hl.2 hp), trivial⟩) (fun γ => by kernel_rfl)


/-- all but the first byte -/
def tl (s : ByteArray) : ByteArray := s.extract 1 33
theorem tl_size {s : ByteArray} (hs : s.size = 33) : (tl s).size = 32 := by
  unfold tl
  rw [ByteArray.size_extract, hs]
  rfl
theorem tl_sb {s : ByteArray} (hs : s.size = 33) {k : Nat} (hk : k < 32) : sb (tl s) k = sb s (k + 1) := by
  rw [sb_data, sb_data]
  unfold tl
  rw [ByteArray.data_extract, Array.getElem?_extract]
  have h1 : s.data.size = 33 := hs
  rw [h1, if_pos (by omega), Nat.add_comm]
def slF (d : Nat) (s : ByteArray) : Rec := opF d (Instr.sliceAt 9 (.string s) (some (.int .i64 1)) none none) (.string (tl s))
theorem slF_ok {w0 : World} {d : Nat} {s : ByteArray} (hs : s.size = 33) : (slF d s).Ok Try.prog w0 := opF_ok fun w => by
  have hu : Try.prog.underlying 9 = some .string := by kernel_rfl
  rw [run_sliceAt_string w 9 _ _ _ _ hu]
  simp [Instr.slice, Instr.sliceBounds, Instr.sliceBound, asIntOf, run_underlying hu, hs, tl]

def nq8 (x c : Nat) : Value := .bool (!((x : Int) == (c : Int)))
theorem nq8_true {x c : Nat} (h : x ≠ c) : nq8 x c = .bool true := nqX_true h
theorem nq8_false (x : Nat) : nq8 x x = .bool false := nqX_false x

def dcBad (s : ByteArray) (k b : Nat) : List Rec :=
  [rn (k + 10) (nqX s.size 33) (.bool false), ixV (k + 13) s 0 b, rn (k + 14) (nq8 b 0) (.bool true), ixV (k + 17) s 0 b, rn (k + 18) (nq8 b 2) (.bool true), ixV (k + 22) s 0 b, rn (k + 23) (nq8 b 3) (.bool true)]
def dc0 (s : ByteArray) (k : Nat) : List Rec := [rn (k + 10) (nqX s.size 33) (.bool false), ixV (k + 13) s 0 0, ixV (k + 28) s 0 0]
def dc2 (s : ByteArray) (k : Nat) : List Rec := [rn (k + 10) (nqX s.size 33) (.bool false), ixV (k + 13) s 0 2, ixV (k + 17) s 0 2, ixV (k + 28) s 0 2]
def dc3 (s : ByteArray) (k : Nat) : List Rec := [rn (k + 10) (nqX s.size 33) (.bool false), ixV (k + 13) s 0 3, ixV (k + 17) s 0 3, ixV (k + 22) s 0 3, ixV (k + 28) s 0 3]
section
variable {s : ByteArray} {k : Nat} {w : World}
theorem dcBad_ok (hs : s.size = 33) (h0 : sb s 0 ≠ 0) (h2 : sb s 0 ≠ 2) (h3 : sb s 0 ≠ 3) : RecsOk w (dcBad s k (sb s 0)) :=
  ⟨rn_ok (by rw [hs]; rfl), ixV_ok (by omega) rfl, rn_ok (nq8_true h0), ixV_ok (by omega) rfl, rn_ok (nq8_true h2), ixV_ok (by omega) rfl, rn_ok (nq8_true h3), trivial⟩
theorem dc0_ok (hs : s.size = 33) (h : sb s 0 = 0) : RecsOk w (dc0 s k) := ⟨rn_ok (by rw [hs]; rfl), ixV_ok (by omega) h, ixV_ok (by omega) h, trivial⟩
theorem dc2_ok (hs : s.size = 33) (h : sb s 0 = 2) : RecsOk w (dc2 s k) := ⟨rn_ok (by rw [hs]; rfl), ixV_ok (by omega) h, ixV_ok (by omega) h, ixV_ok (by omega) h, trivial⟩
theorem dc3_ok (hs : s.size = 33) (h : sb s 0 = 3) : RecsOk w (dc3 s k) := ⟨rn_ok (by rw [hs]; rfl), ixV_ok (by omega) h, ixV_ok (by omega) h, ixV_ok (by omega) h, ixV_ok (by omega) h, trivial⟩
end

/-- what bytes are: a point, and what is wrong -/
def decW (s : ByteArray) : W9 × Nat :=
  if s.size ≠ 33 then (⟨0, 0, false⟩, 4) else
  if sb s 0 = 0 then (if s = bsOf zeros33 then (⟨0, 0, true⟩, 0) else (⟨0, 0, false⟩, 4)) else
  if sb s 0 ≠ 2 ∧ sb s 0 ≠ 3 then (⟨0, 0, false⟩, 4) else
  if P ≤ nS (tl s) then (⟨0, 0, false⟩, 20) else
  if fmul (rootOf (cub (nS (tl s)))) (rootOf (cub (nS (tl s)))) ≠ cub (nS (tl s)) then (⟨0, 0, false⟩, 30) else
  (⟨nS (tl s), if sb s 0 = 3 then fsub 0 (evenRoot (cub (nS (tl s)))) else evenRoot (cub (nS (tl s))), false⟩, 0)

def decV (q : W9 × Nat) : Value := .tuple #[wv q.1, I (q.2 : Nat)]
/-- curve.Decode -/
theorem f35_ok (s : ByteArray) : Pure 35 [SV s] (decV (decW s)) := by
  unfold decW
  by_cases hs : s.size = 33
  · rw [if_neg (not_not_intro hs)]
    by_cases h0 : sb s 0 = 0
    · rw [if_pos h0]
      by_cases hz : s = bsOf zeros33
      · rw [if_pos hz]
        exact pure_of Try.func35 rfl 8 [SV s] (dc0 s 0 ++ [tsF 32 1 (fun σ => rowE (σ 1) zeros33) zeros33 33, neT 33 s (bsOf zeros33) false]) _ (fun w => (dc0_ok hs h0).append ⟨tsR_ok, neT_ok ⟨fun h => (by cases h), fun h => absurd hz h⟩, trivial⟩) (fun γ => by kernel_rfl)
      · rw [if_neg hz]
        exact pure_of Try.func35 rfl 8 [SV s] (dc0 s 0 ++ [tsF 32 1 (fun σ => rowE (σ 1) zeros33) zeros33 33, neT 33 s (bsOf zeros33) true]) _ (fun w => (dc0_ok hs h0).append ⟨tsR_ok, neT_ok ⟨fun _ => hz, fun _ => rfl⟩, trivial⟩) (fun γ => by kernel_rfl)
    · rw [if_neg h0]
      by_cases hb : sb s 0 ≠ 2 ∧ sb s 0 ≠ 3
      · rw [if_pos hb]
        have hr := fun w : World => dcBad_ok (w := w) (k := 0) hs h0 hb.1 hb.2
        generalize sb s 0 = b at *
        exact pure_of Try.func35 rfl 8 [SV s] (dcBad s 0 b) _ hr (fun γ => by kernel_rfl)
      · rw [if_neg hb]
        have ht := tl_size hs
        have hsl := fun w0 : World => slF_ok (w0 := w0) (d := 40) hs
        by_cases hP : P ≤ nS (tl s)
        · rw [if_pos hP]
          have h84 := fun g h => f84_out (g := g) (h := h) ht hP
          have hsl' : ∀ w0 : World, (opF 40 (Instr.sliceAt 9 (.string s) (some (.int .i64 1)) none none) (.string (tl s))).Ok Try.prog w0 := hsl
          by_cases h2 : sb s 0 = 2
          · generalize tl s = t at *
            exact pure_of Try.func35 rfl 8 [SV s] (dc2 s 0 ++ [bc 1, opF 40 (Instr.sliceAt 9 (.string s) (some (.int .i64 1)) none none) (.string t), oc 84 1 [SV t] (.tuple #[NV 0, I 20])]) _
              (fun w => (dc2_ok hs h2).append ⟨bc_ok, hsl' w, oc_ok h84, trivial⟩) (fun γ => by kernel_rfl)
          · have h3 : sb s 0 = 3 := by omega
            generalize tl s = t at *
            exact pure_of Try.func35 rfl 8 [SV s] (dc3 s 0 ++ [bc 1, opF 40 (Instr.sliceAt 9 (.string s) (some (.int .i64 1)) none none) (.string t), oc 84 1 [SV t] (.tuple #[NV 0, I 20])]) _
              (fun w => (dc3_ok hs h3).append ⟨bc_ok, hsl' w, oc_ok h84, trivial⟩) (fun γ => by kernel_rfl)
        · rw [if_neg hP]
          have hn : nS (tl s) < P := by omega
          have h84 := fun g h => f84_in (g := g) (h := h) ht hn
          have h69 := fun g h => f69_ok (g := g) (h := h) hn
          have hcl : cub (nS (tl s)) < P := fadd_lt _ _
          have hsl' : ∀ w0 : World, (opF 40 (Instr.sliceAt 9 (.string s) (some (.int .i64 1)) none none) (.string (tl s))).Ok Try.prog w0 := hsl
          by_cases hq : fmul (rootOf (cub (nS (tl s)))) (rootOf (cub (nS (tl s)))) ≠ cub (nS (tl s))
          · rw [if_pos hq]
            have h85 := fun g h => f85_no (g := g) (h := h) hcl hq
            generalize cub (nS (tl s)) = c at *
            generalize nS (tl s) = n at *
            generalize tl s = t at *
            by_cases h2 : sb s 0 = 2
            · exact pure_of Try.func35 rfl 8 [SV s] (dc2 s 0 ++ [bc 1, opF 40 (Instr.sliceAt 9 (.string s) (some (.int .i64 1)) none none) (.string t), oc 84 1 [SV t] (.tuple #[NV n, I 0]), oc 69 1 [NV n] (NV c), oc 85 1 [NV c] (.tuple #[NV 0, I 22])]) _
                (fun w => (dc2_ok hs h2).append ⟨bc_ok, hsl' w, oc_ok h84, oc_ok h69, oc_ok h85, trivial⟩) (fun γ => by kernel_rfl)
            · have h3 : sb s 0 = 3 := by omega
              exact pure_of Try.func35 rfl 8 [SV s] (dc3 s 0 ++ [bc 1, opF 40 (Instr.sliceAt 9 (.string s) (some (.int .i64 1)) none none) (.string t), oc 84 1 [SV t] (.tuple #[NV n, I 0]), oc 69 1 [NV n] (NV c), oc 85 1 [NV c] (.tuple #[NV 0, I 22])]) _
                (fun w => (dc3_ok hs h3).append ⟨bc_ok, hsl' w, oc_ok h84, oc_ok h69, oc_ok h85, trivial⟩) (fun γ => by kernel_rfl)
          · rw [if_neg hq]
            have h85 := fun g h => f85_yes (g := g) (h := h) hcl (Classical.not_not.1 hq)
            have hel := evenRoot_lt (cub (nS (tl s)))
            have h32 := fun g h => f32_ok (g := g) (h := h) (r2 := P2) (inv := Pi) (root := rt) P_R hel
            have e : (P - evenRoot (cub (nS (tl s)))) % P = fsub 0 (evenRoot (cub (nS (tl s)))) := by unfold fsub; rw [Nat.zero_add]
            rw [e] at h32
            generalize fsub 0 (evenRoot (cub (nS (tl s)))) = f at *
            generalize evenRoot (cub (nS (tl s))) = r at *
            generalize cub (nS (tl s)) = c at *
            generalize nS (tl s) = n at *
            generalize tl s = t at *
            by_cases h2 : sb s 0 = 2
            · rw [if_neg (by omega)]
              exact pure_of Try.func35 rfl 8 [SV s] (dc2 s 0 ++ [bc 1, opF 40 (Instr.sliceAt 9 (.string s) (some (.int .i64 1)) none none) (.string t), oc 84 1 [SV t] (.tuple #[NV n, I 0]), oc 69 1 [NV n] (NV c), oc 85 1 [NV c] (.tuple #[NV r, I 0]), ixV 60 s 0 2]) _
                (fun w => (dc2_ok hs h2).append ⟨bc_ok, hsl' w, oc_ok h84, oc_ok h69, oc_ok h85, ixV_ok (by omega) h2, trivial⟩) (fun γ => by kernel_rfl)
            · have h3 : sb s 0 = 3 := by omega
              rw [if_pos h3]
              exact pure_of Try.func35 rfl 8 [SV s] (dc3 s 0 ++ [bc 1, opF 40 (Instr.sliceAt 9 (.string s) (some (.int .i64 1)) none none) (.string t), oc 84 1 [SV t] (.tuple #[NV n, I 0]), oc 69 1 [NV n] (NV c), oc 85 1 [NV c] (.tuple #[NV r, I 0]), ixV 60 s 0 3, oc 32 1 [NV r] (.tuple #[NV f, I 0])]) _
                (fun w => (dc3_ok hs h3).append ⟨bc_ok, hsl' w, oc_ok h84, oc_ok h69, oc_ok h85, ixV_ok (by omega) h3, oc_ok h32, trivial⟩) (fun γ => by kernel_rfl)
  · rw [if_pos hs]
    exact pure_of Try.func35 rfl 8 [SV s] [rn 10 (nqX s.size 33) (.bool true)] _ (fun w => ⟨rn_ok (nqX_true hs), trivial⟩) (fun γ => by kernel_rfl)

end Go.Proofs.Ytildcmggcbdhpaa
