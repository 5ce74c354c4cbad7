/- The document's answers, layer 3: numbers times points, and their sums. No conditions but that numbers are below the modulus, and that the slices' numbers and points stand where their values say. -/
import Derived.Test.YtildcmggcbdhpaaCurveG
import Derived.Test.YtildcmggcbdhpaaEcQ
namespace Go.Proofs.Ytildcmggcbdhpaa
open Go.Ex Go.RowKit Lim
set_option maxRecDepth 100000

noncomputable def tiC : Code := (loopsOf (Fx Try.f75)).getD 1 .skip
def oE (g : Nat) (p : J) : Ent := ⟨g, jl p, [], 101, true⟩
def tiS (k : Nat) (a : J) (d : Nat) (gl : List Nat) (v : Value) (r : J) : St :=
  ⟨frOf 32 [(2, PT (gl.getD 0 0)), (3, PT (gl.getD 1 0)), (4, PT (gl.getD 2 0)), (5, PT (gl.getD 3 0)), (6, I (d : Nat)), (7, v)],
    tgOf 32 [(2, .at_ 0), (3, .at_ 1), (4, .at_ 2), (5, .at_ 3)], [numE (gl.getD 0 0) k true, oE (gl.getD 1 0) a, oE (gl.getD 2 0) ⟨0, 0, 0⟩, oE (gl.getD 3 0) r]⟩
def jv (p : J) : Value := JV p.x p.y p.z
def tiHead (n x b : Nat) (r t : J) : List Rec := [rn 15 (geX n) (.bool true), pc 108 [jv r] (jv t), shrUF 25 x n, rn 26 (remX (x / 2 ^ n)) (U b)]
theorem ti_go0 (k : Nat) (a : J) (gl : List Nat) (n : Nat) (r t : J) (γ : Nat → Nat) : ∀ d, d < 4 →
    endL (tiS k a d gl (V8 n) t) (exec Try.prog tiC ⟨tiS k a d gl (I (n : Nat)) r, (List.range 8).map γ, tiHead n (dg k d) 0 r t ++ [rn 17 (decX n) (V8 n)], []⟩) =
      endR .normal (tiS k a d gl (V8 n) t) (exec Try.prog tiC ⟨tiS k a d gl (I (n : Nat)) r, (List.range 8).map γ, tiHead n (dg k d) 0 r t ++ [rn 17 (decX n) (V8 n)], []⟩)
  | 0, _ => by kernel_rfl
  | 1, _ => by kernel_rfl
  | 2, _ => by kernel_rfl
  | 3, _ => by kernel_rfl
theorem ti_go1 (k : Nat) (a : J) (gl : List Nat) (n : Nat) (r t t' : J) (γ : Nat → Nat) : ∀ d, d < 4 →
    endL (tiS k a d gl (V8 n) t') (exec Try.prog tiC ⟨tiS k a d gl (I (n : Nat)) r, (List.range 8).map γ, tiHead n (dg k d) 1 r t ++ [pc 61 [jv t, jv a] (jv t'), rn 17 (decX n) (V8 n)], []⟩) =
      endR .normal (tiS k a d gl (V8 n) t') (exec Try.prog tiC ⟨tiS k a d gl (I (n : Nat)) r, (List.range 8).map γ, tiHead n (dg k d) 1 r t ++ [pc 61 [jv t, jv a] (jv t'), rn 17 (decX n) (V8 n)], []⟩)
  | 0, _ => by kernel_rfl
  | 1, _ => by kernel_rfl
  | 2, _ => by kernel_rfl
  | 3, _ => by kernel_rfl
theorem ti_stop (k : Nat) (a : J) (d : Nat) (gl : List Nat) (r : J) (γ : Nat → Nat) :
    endL (tiS k a d gl (V8 0) r) (exec Try.prog tiC ⟨tiS k a d gl (V8 0) r, (List.range 8).map γ, [], []⟩) = endR (.exit 2) (tiS k a d gl (V8 0) r) (exec Try.prog tiC ⟨tiS k a d gl (V8 0) r, (List.range 8).map γ, [], []⟩) := by kernel_rfl

/-- what stands where j bits are left -/
def tiV (k : Nat) (a : J) (j : Nat) : J := Cp.tmS k a (256 - j)
theorem tiV_lt {k : Nat} {a : J} (ha : a.lt) (j : Nat) : (tiV k a j).lt := Cp.tmS_lt ha _
theorem tiV_step (k : Nat) (a : J) {j : Nat} (h : j < 256) : tiV k a j = if bitN k j = 1 then opl (twi (tiV k a (j + 1))) a else twi (tiV k a (j + 1)) := by
  unfold tiV
  rw [show 256 - j = (256 - (j + 1)) + 1 by omega]
  conv => lhs; unfold Cp.tmS
  rw [show 255 - (256 - (j + 1)) = j by omega]

theorem tiRec_of (f : Nat → J) {k : Nat} {a : J} (ha : a.lt) (hf : ∀ j, (f j).lt) (hs : ∀ j, j < 256 → f j = if bitN k j = 1 then opl (twi (f (j + 1))) a else twi (f (j + 1))) {d : Nat} (hd : d < 4) {w0 : World} :
    (Rec.code tiC (fun gl => tiS k a d gl (V8 64) (f (64 * d + 64))) (fun gl => tiS k a d gl (V8 0) (f (64 * d))) (.exit 2)).Ok Try.prog w0 := by
  refine Rec.ok_code follows (fun gl j => tiS k a d gl (V8 j) (f (64 * d + j))) (fun j => j ≤ 64) id (.exit 2) (fun gl => tiS k a d gl (V8 0) (f (64 * d))) (fun h => by cases h) 64 (Nat.le_refl _) (fun gl j hj => ?_)
  cases j with
  | zero => exact .stop 8 [] (fun r hr => by cases hr) (fun γ => ti_stop k a d gl (f (64 * d)) γ)
  | succ n =>
    have hx : dg k d < B := dg_lt (by omega)
    have hbd := bit_d k (d := d) (j := n) (by omega)
    rw [← dg_eq k d (by omega)] at hbd
    have hlt := hf (64 * d + (n + 1))
    have h1 := f108_ok hlt
    have hstep := hs (64 * d + n) (by omega)
    rw [Nat.add_assoc] at hstep
    have hbit : bitN k (64 * d + n) = 0 ∨ bitN k (64 * d + n) = 1 := by unfold bitN; omega
    have hhead : ∀ b, bitN k (64 * d + n) = b → RecsOk w0 (tiHead n (dg k d) b (f (64 * d + (n + 1))) (twi (f (64 * d + (n + 1))))) := fun b hb =>
      ⟨rn_ok (geX_eq n), pc_ok h1, shrUF_ok (by omega), rn_ok (by rw [remX_eq, hbd, hb]), trivial⟩
    rcases hbit with h0 | h0
    · rw [if_neg (by omega)] at hstep
      refine .go n (by omega) (by simp) 8 (tiHead n (dg k d) 0 (f (64 * d + (n + 1))) (twi (f (64 * d + (n + 1)))) ++ [rn 17 (decX n) (V8 n)]) ((hhead 0 h0).append (m := [rn 17 (decX n) (V8 n)]) ⟨rn_ok (decX_eq (by omega)), trivial⟩).all (fun γ => ?_)
      rw [hstep]
      exact ti_go0 k a gl n _ _ γ d hd
    · rw [if_pos h0] at hstep
      refine .go n (by omega) (by simp) 8 (tiHead n (dg k d) 1 (f (64 * d + (n + 1))) (twi (f (64 * d + (n + 1)))) ++ [pc 61 [jv (twi (f (64 * d + (n + 1)))), jv a] (jv (opl (twi (f (64 * d + (n + 1)))) a)), rn 17 (decX n) (V8 n)])
        ((hhead 1 h0).append (m := [pc 61 [jv (twi (f (64 * d + (n + 1)))), jv a] (jv (opl (twi (f (64 * d + (n + 1)))) a)), rn 17 (decX n) (V8 n)]) ⟨pc_ok (f61_ok (twi_lt _) ha), rn_ok (decX_eq (by omega)), trivial⟩).all (fun γ => ?_)
      rw [hstep]
      exact ti_go1 k a gl n _ _ _ γ d hd

noncomputable def tiRecs (k : Nat) (a r1 r2 r3 r4 : J) : List Rec := [rn 11 (.bool true) (.bool true), .code tiC (fun gl => tiS k a 3 gl (V8 64) ⟨0, 1, 0⟩) (fun gl => tiS k a 3 gl (V8 0) r3) (.exit 2),
      rn 11 (.bool true) (.bool true), .code tiC (fun gl => tiS k a 2 gl (V8 64) r3) (fun gl => tiS k a 2 gl (V8 0) r2) (.exit 2), rn 11 (.bool true) (.bool true), .code tiC (fun gl => tiS k a 1 gl (V8 64) r2) (fun gl => tiS k a 1 gl (V8 0) r1) (.exit 2),
      rn 11 (.bool true) (.bool true), .code tiC (fun gl => tiS k a 0 gl (V8 64) r1) (fun gl => tiS k a 0 gl (V8 0) r4) (.exit 2)]
theorem f75_raw (k : Nat) (a r1 r2 r3 r4 : J) (γ : Nat → Nat) :
    outL Try.prog Try.f75.results.toList [] (exec Try.prog (Fx Try.f75) ⟨Ex.start Try.f75.ntmps [(NV k, .no), (jv a, .no)] [], (List.range 8).map γ, tiRecs k a r1 r2 r3 r4, []⟩) =
      outR Try.prog Try.f75.results.toList [] (jv r4) (exec Try.prog (Fx Try.f75) ⟨Ex.start Try.f75.ntmps [(NV k, .no), (jv a, .no)] [], (List.range 8).map γ, tiRecs k a r1 r2 r3 r4, []⟩) := by kernel_rfl

/-- wardmoteref03.Times -/
theorem f75_ok {k : Nat} {a : J} (ha : a.lt) : Pure 75 [NV k, jv a] (jv (Cp.tmS k a 256)) := by
  have h0 : tiV k a 256 = ⟨0, 1, 0⟩ := rfl
  have e : Cp.tmS k a 256 = tiV k a 0 := rfl
  rw [e]
  have r3 := fun w0 : World => tiRec_of (tiV k a) ha (tiV_lt ha) (fun j hj => tiV_step k a hj) (d := 3) (w0 := w0) (by omega)
  have r2 := fun w0 : World => tiRec_of (tiV k a) ha (tiV_lt ha) (fun j hj => tiV_step k a hj) (d := 2) (w0 := w0) (by omega)
  have r1 := fun w0 : World => tiRec_of (tiV k a) ha (tiV_lt ha) (fun j hj => tiV_step k a hj) (d := 1) (w0 := w0) (by omega)
  have r0 := fun w0 : World => tiRec_of (tiV k a) ha (tiV_lt ha) (fun j hj => tiV_step k a hj) (d := 0) (w0 := w0) (by omega)
  generalize tiV k a = f at *
  simp only [Nat.reduceMul, Nat.reduceAdd, Nat.zero_add] at r3 r2 r1 r0
  rw [h0] at r3
  exact pure_of Try.func75 rfl 8 [NV k, jv a] (tiRecs k a (f 64) (f 128) (f 192) (f 0)) _ (fun w => ⟨rn_ok rfl, r3 w, rn_ok rfl, r2 w, rn_ok rfl, r1 w, rn_ok rfl, r0 w, trivial⟩) (fun γ => f75_raw k a _ _ _ _ γ)

theorem f75_cp {k : Nat} {p : J} {a : Cp} (h : OO p a.1) (hp : p.lt) (hk : k < R) : OO (Cp.tmS k p 256) (Cp.mul k a).1 ∧ (Cp.tmS k p 256).lt := ⟨Cp.tmS_is h hp hk, Cp.tmS_lt hp _⟩

def cpOf (p : W9) (h : isPt p.x p.y p.inf = true) : Cp := ⟨pt p.x p.y p.inf, pt_on h⟩
theorem fQ (a : Nat) (h : a < R) {q : Bool} (hq : decide (a < Q) = q) : Pure 46 [FV Q CQ, NV a] (.bool q) := hq ▸ f46_ok Q_R h

/-- wardmoteref03.Mul -/
theorem f27_yes {k : Nat} {p : W9} (hk : k < Q) (hp : isPt p.x p.y p.inf = true) : Pure 27 [NV k, PV p.x p.y p.inf] (.tuple #[PVt (Cp.mul k (cpOf p hp)).1, I 0]) := by
  obtain ⟨hx, hy⟩ := valid_lt hp
  have hkR := Nat.lt_trans hk Q_R
  obtain ⟨h1, h2⟩ := f75_cp (k := k) (a := cpOf p hp) (oIn_OO p.x p.y p.inf) (oIn_lt hx hy p.inf) hkR
  have h75 := f75_ok (k := k) (oIn_lt hx hy p.inf)
  have h60 := f60_ok h1 h2
  have h62 := f62_ok (x := p.x) (y := p.y) p.inf
  generalize (Cp.mul k (cpOf p hp)).1 = S at *
  generalize Cp.tmS k (oIn p.x p.y p.inf) 256 = t at *
  generalize oIn p.x p.y p.inf = c at *
  exact pure_of Try.func27 rfl 8 [NV k, PV p.x p.y p.inf] [pc 45 [] (FV Q CQ), pc 46 [FV Q CQ, NV k] (.bool true), pc 20 [PV p.x p.y p.inf] (.bool true), pc 62 [PV p.x p.y p.inf] (jv c), pc 75 [NV k, jv c] (jv t), pc 60 [jv t] (PVt S)] _
    (fun _ => ⟨pc_ok f45_ok, pc_ok (fQ k hkR (decide_eq_true hk)), pc_ok (f20_is (ltR hx) (ltR hy) hp), pc_ok h62, pc_ok h75, pc_ok h60, trivial⟩) (fun γ => by kernel_rfl)
theorem f27_no {k : Nat} {p : W9} (hkR : k < R) (hl : p.lt) : (Q ≤ k → Pure 27 [NV k, PV p.x p.y p.inf] (.tuple #[PV 0 0 false, I 20])) ∧ (k < Q → isPt p.x p.y p.inf = false → Pure 27 [NV k, PV p.x p.y p.inf] (.tuple #[PV 0 0 false, I 30])) := by
  refine ⟨fun hk => ?_, fun hk hp => ?_⟩
  · exact pure_of Try.func27 rfl 8 [NV k, PV p.x p.y p.inf] [pc 45 [] (FV Q CQ), pc 46 [FV Q CQ, NV k] (.bool false)] _ (fun _ => ⟨pc_ok f45_ok, pc_ok (fQ k hkR (decide_eq_false (by omega))), trivial⟩) (fun γ => by kernel_rfl)
  · exact pure_of Try.func27 rfl 8 [NV k, PV p.x p.y p.inf] [pc 45 [] (FV Q CQ), pc 46 [FV Q CQ, NV k] (.bool true), pc 20 [PV p.x p.y p.inf] (.bool false)] _
      (fun _ => ⟨pc_ok f45_ok, pc_ok (fQ k hkR (decide_eq_true hk)), pc_ok (f20_is hl.1 hl.2 hp), trivial⟩) (fun γ => by kernel_rfl)

end Go.Proofs.Ytildcmggcbdhpaa
