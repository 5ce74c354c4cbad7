/- Package limb: the remainder's walk. No conditions but that the number that divides is below R and not 0. -/
import Derived.Test.YtildcmggcbdhpaaLimbG
namespace Go.Proofs.Ytildcmggcbdhpaa
open Go.Ex Go.RowKit Lim

def dg (w d : Nat) : Nat := [l0 w, l1 w, l2 w, l3 w, l4 w, l5 w, l6 w, l7 w].getD d 0
theorem dg_eq (w : Nat) : ∀ d, d < 8 → dg w d = w / B ^ d % B
  | 0, _ => by rw [Nat.pow_zero, Nat.div_one]; rfl
  | 1, _ => l1_eq w
  | 2, _ => l2_eq w
  | 3, _ => l3_eq w
  | 4, _ => by rw [show B ^ 4 = B * B * B * B from rfl, ← Nat.div_div_eq_div_mul, ← Nat.div_div_eq_div_mul, ← Nat.div_div_eq_div_mul]; rfl
  | 5, _ => by rw [show B ^ 5 = B * B * B * B * B from rfl, ← Nat.div_div_eq_div_mul, ← Nat.div_div_eq_div_mul, ← Nat.div_div_eq_div_mul, ← Nat.div_div_eq_div_mul]; rfl
  | 6, _ => by rw [show B ^ 6 = B * B * B * B * B * B from rfl, ← Nat.div_div_eq_div_mul, ← Nat.div_div_eq_div_mul, ← Nat.div_div_eq_div_mul, ← Nat.div_div_eq_div_mul, ← Nat.div_div_eq_div_mul]; rfl
  | 7, _ => by rw [show B ^ 7 = B * B * B * B * B * B * B from rfl, ← Nat.div_div_eq_div_mul, ← Nat.div_div_eq_div_mul, ← Nat.div_div_eq_div_mul, ← Nat.div_div_eq_div_mul, ← Nat.div_div_eq_div_mul, ← Nat.div_div_eq_div_mul]; rfl
theorem dg_lt {w d : Nat} (h : d < 8) : dg w d < B := by rw [dg_eq w d h]; exact Nat.mod_lt _ B_pos

def modS (w m : Nat) (gl : List Nat) (v : Value) (r : Nat) : St :=
  ⟨frOf 67 [(2, PT (gl.getD 0 0)), (3, PT (gl.getD 1 0)), (4, PT (gl.getD 2 0)), (6, PT (gl.getD 3 0)), (8, v)], tgOf 67 [(2, .at_ 0), (3, .at_ 1), (4, .at_ 2), (6, .at_ 3)],
    [wideE (gl.getD 0 0) w true, numE (gl.getD 1 0) m true, numE (gl.getD 2 0) 0 true, numE (gl.getD 3 0) r true]⟩

theorem mod_h (w m : Nat) (gl : List Nat) (r n j s b c y t r' over : Nat) (γ : Nat → Nat) : ∀ d, d < 8 →
    endL (modS w m gl (V8 n) r') (exec Try.prog modC ⟨modS w m gl (I (n : Nat)) r, (List.range 8).map γ, modRecs m r n d j (dg w d) s b c y t r' over, []⟩) =
      endR .normal (modS w m gl (V8 n) r') (exec Try.prog modC ⟨modS w m gl (I (n : Nat)) r, (List.range 8).map γ, modRecs m r n d j (dg w d) s b c y t r' over, []⟩)
  | 0, _ => by kernel_rfl
  | 1, _ => by kernel_rfl
  | 2, _ => by kernel_rfl
  | 3, _ => by kernel_rfl
  | 4, _ => by kernel_rfl
  | 5, _ => by kernel_rfl
  | 6, _ => by kernel_rfl
  | 7, _ => by kernel_rfl

theorem mod_stop (w m : Nat) (gl : List Nat) (r : Nat) (γ : Nat → Nat) :
    endL (modS w m gl (V8 0) r) (exec Try.prog modC ⟨modS w m gl (V8 0) r, (List.range 8).map γ, [], []⟩) = endR (.exit 2) (modS w m gl (V8 0) r) (exec Try.prog modC ⟨modS w m gl (V8 0) r, (List.range 8).map γ, [], []⟩) := by kernel_rfl

theorem rem_step (w m n : Nat) : w / 2 ^ n % m = (2 * (w / 2 ^ (n + 1) % m) + bitN w n) % m := by
  have e : w / 2 ^ n = 2 * (w / 2 ^ (n + 1)) + bitN w n := by
    unfold bitN
    rw [Nat.pow_succ, ← Nat.div_div_eq_div_mul]
    omega
  rw [e, Nat.add_mod (2 * (w / 2 ^ (n + 1) % m)), Nat.mul_mod_mod, ← Nat.add_mod]

noncomputable def modRec (w m : Nat) (k : Nat) : Rec := .code modC (fun gl => modS w m gl (V8 k) (w / 2 ^ k % m)) (fun gl => modS w m gl (V8 0) (w % m)) (.exit 2)
theorem modRec_ok {w m k : Nat} {w0 : World} (hm : m < R) (h0 : 0 < m) (hk : k ≤ 512) : (modRec w m k).Ok Try.prog w0 := by
  refine Rec.ok_code follows (fun gl k => modS w m gl (V8 k) (w / 2 ^ k % m)) (fun k => k ≤ 512) id (.exit 2) (fun gl => modS w m gl (V8 0) (w % m)) (fun h => by cases h) k hk (fun gl k hk => ?_)
  cases k with
  | zero =>
    refine .stop 8 [] (fun r hr => by cases hr) (fun γ => ?_)
    have h := mod_stop w m gl (w % m) γ
    have e : w / 2 ^ 0 % m = w % m := by rw [Nat.pow_zero, Nat.div_one]
    show endL _ (exec Try.prog modC ⟨modS w m gl (V8 0) (w / 2 ^ 0 % m), _, _, _⟩) = endR _ _ (exec Try.prog modC ⟨modS w m gl (V8 0) (w / 2 ^ 0 % m), _, _, _⟩)
    rw [e]
    exact h
  | succ n =>
    obtain ⟨d, j, hd, hj, rfl⟩ : ∃ d j, d < 8 ∧ j < 64 ∧ n = 64 * d + j := ⟨n / 64, n % 64, by omega, by omega, by omega⟩
    obtain ⟨s, c, y, t, over, hok⟩ := modRecs_ok (m := m) (r := w / 2 ^ (64 * d + j + 1) % m) (d := d) (j := j) (x := dg w d) (b := bitN w (64 * d + j)) w0 hm (Nat.mod_lt _ h0) hd hj (dg_lt hd) (by rw [dg_eq w d hd, bit_d _ hj])
    rw [← rem_step] at hok
    refine .go (64 * d + j) (by omega) (by simp) 8 _ hok.all (fun γ => ?_)
    exact mod_h w m gl _ _ _ _ _ _ _ _ _ _ γ d hd


def eqX (x : Nat) : Value := .bool (((x : Nat) : Int) == 0)
theorem eqX_true : eqX 0 = .bool true := rfl
theorem eqX_false {x : Nat} (h : x ≠ 0) : eqX x = .bool false := by
  unfold eqX
  rw [show (((x : Nat) : Int) == 0) = false from by rw [beq_eq_false_iff_ne]; omega]

/-- .. where it is known -/
def eqB (d a b : Nat) (q : Bool) : Rec := opF d (eqS a b) (.bool q)
theorem eqB_ok {w0 : World} {d a b : Nat} {q : Bool} (ha : a < R) (hb : b < R) (hq : decide (a = b) = q) : (eqB d a b q).Ok Try.prog w0 := by
  have h := eqF_ok (w0 := w0) (d := d) ha hb
  unfold eqF at h
  rw [hq] at h
  exact h

def zeros (w : Nat) (n : Nat) : List Rec := (List.range n).map fun i => rn 23 (eqX (dg w (7 - i))) (.bool true)
/-- the rounds ahead: digits that are 0 -/
noncomputable def topRecs (w m v i : Nat) : List Rec := eqB 14 m 0 false :: (zeros w i ++ (if i < 8 then [rn 23 (eqX (dg w (7 - i))) (.bool false)] else []) ++ [.code modC (fun gl => modS w m gl (V8 (512 - 64 * i)) 0) (fun gl => modS w m gl (V8 0) v) (.exit 2)])

/-- limb.Mod -/
theorem f115_h (w m v : Nat) (γ : Nat → Nat) : ∀ i, i < 9 →
    outL Try.prog Try.f115.results.toList [] (exec Try.prog (Fx Try.f115) ⟨Ex.start Try.f115.ntmps [(WV w, .no), (NV m, .no)] [], (List.range 8).map γ, topRecs w m v i, []⟩) =
      outR Try.prog Try.f115.results.toList [] (.tuple #[NV v, I 0]) (exec Try.prog (Fx Try.f115) ⟨Ex.start Try.f115.ntmps [(WV w, .no), (NV m, .no)] [], (List.range 8).map γ, topRecs w m v i, []⟩)
  | 0, _ => by kernel_rfl
  | 1, _ => by kernel_rfl
  | 2, _ => by kernel_rfl
  | 3, _ => by kernel_rfl
  | 4, _ => by kernel_rfl
  | 5, _ => by kernel_rfl
  | 6, _ => by kernel_rfl
  | 7, _ => by kernel_rfl
  | 8, _ => by kernel_rfl

theorem zeros_ok {w : Nat} {w0 : World} {n : Nat} (hn : n ≤ 8) (h : ∀ d, 8 - n ≤ d → d < 8 → dg w d = 0) : RecsOk w0 (zeros w n) := by
  have : ∀ l : List Nat, (∀ i ∈ l, i < n) → RecsOk w0 (l.map fun i => rn 23 (eqX (dg w (7 - i))) (.bool true)) := by
    intro l
    induction l with
    | nil => intro _; trivial
    | cons i l ih =>
      intro hl
      refine ⟨rn_ok ?_, ih fun j hj => hl j (by simp [hj])⟩
      have := hl i (by simp)
      rw [h (7 - i) (by omega) (by omega), eqX_true]
  exact this _ fun i hi => by simpa using hi

theorem first_zero (w : Nat) : ∃ i, i ≤ 8 ∧ (∀ d, 8 - i ≤ d → d < 8 → dg w d = 0) ∧ (i < 8 → dg w (7 - i) ≠ 0) := by
  have : ∀ k, k ≤ 8 → (∃ i, i ≤ k ∧ (∀ d, 8 - i ≤ d → d < 8 → dg w d = 0) ∧ (i < k → dg w (7 - i) ≠ 0)) := by
    intro k
    induction k with
    | zero => intro _; exact ⟨0, by omega, fun d h1 h2 => by omega, fun h => by omega⟩
    | succ k ih =>
      intro hk
      obtain ⟨i, h1, h2, h3⟩ := ih (by omega)
      by_cases hik : i < k
      · exact ⟨i, by omega, h2, fun _ => h3 hik⟩
      · have e : i = k := by omega
        subst e
        by_cases hz : dg w (7 - i) = 0
        · refine ⟨i + 1, by omega, fun d a b => ?_, fun h => by omega⟩
          by_cases hd : d = 7 - i
          · rw [hd]; exact hz
          · exact h2 d (by omega) b
        · exact ⟨i, by omega, h2, fun _ => hz⟩
  exact this 8 (by omega)

theorem top_zero {w : Nat} (hw : w < R * R) : ∀ n, n ≤ 8 → (∀ d, n ≤ d → d < 8 → dg w d = 0) → w / B ^ n = 0 := by
  intro n hn h
  have : ∀ k, k ≤ 8 - n → w / B ^ (8 - k) = 0 := by
    intro k
    induction k with
    | zero =>
      intro _
      apply Nat.div_eq_of_lt
      rw [show B ^ (8 - 0) = R * R from by decide]
      exact hw
    | succ k ih =>
      intro hk
      have e := ih (by omega)
      have e2 := h (8 - (k + 1)) (by omega) (by omega)
      rw [dg_eq w _ (by omega)] at e2
      rw [show 8 - k = (8 - (k + 1)) + 1 by omega, Nat.pow_succ, ← Nat.div_div_eq_div_mul] at e
      have hd := Nat.div_add_mod (w / B ^ (8 - (k + 1))) B
      rw [e, e2, Nat.mul_zero] at hd
      exact hd.symm
  have := this (8 - n) (by omega)
  rwa [show 8 - (8 - n) = n by omega] at this

theorem f115_ok {w m : Nat} (hw : w < R * R) (hm : m < R) (h0 : 0 < m) : Pure 115 [WV w, NV m] (.tuple #[NV (w % m), I 0]) := by
  obtain ⟨i, hi, hz, hnz⟩ := first_zero w
  have hr : w / 2 ^ (512 - 64 * i) % m = 0 := by
    have e := top_zero hw (8 - i) (by omega) (fun d a b => hz d a b)
    rw [show B = 2 ^ 64 from by decide, ← Nat.pow_mul, show 64 * (8 - i) = 512 - 64 * i by omega] at e
    rw [e, Nat.zero_mod]
  refine pure_of Try.func115 rfl 8 [WV w, NV m] (topRecs w m (w % m) i) _ (fun w0 => ?_) (fun γ => f115_h w m (w % m) γ i (by omega))
  have hrec : Rec.Ok Try.prog w0 (.code modC (fun gl => modS w m gl (V8 (512 - 64 * i)) 0) (fun gl => modS w m gl (V8 0) (w % m)) (.exit 2)) := by
    have := modRec_ok (w := w) (m := m) (k := 512 - 64 * i) (w0 := w0) hm h0 (by omega)
    unfold modRec at this
    rw [hr] at this
    exact this
  refine ⟨eqB_ok hm (by decide) (decide_eq_false (by omega)), ((zeros_ok hi hz).append ?_).append ⟨hrec, trivial⟩⟩
  split
  · rename_i h8
    exact ⟨rn_ok (eqX_false (hnz h8)), trivial⟩
  · trivial

end Go.Proofs.Ytildcmggcbdhpaa
