/- slices.Backward of a row of numbers: what it hands to a loop's body. No conditions but that the row's numbers stand where their values say. -/
import Derived.RangeFuncNested
import Derived.RangeFuncBound
import Derived.RangeFuncCalls
import Derived.RangeFuncLeaves
import Derived.RangeFuncBox
import Derived.Shelf.Abstract
import Derived.WalkKit
import Derived.OwnWalkIn
import Derived.TacticsInMore
import Derived.LoopNIn
import Derived.LoopIn
import Derived.Test.YtildcmggcbdhpaaFeldA
namespace Go.Proofs.Ytildcmggcbdhpaa
open Go.RowKit Go.Shelf Go.Proofs Lim
attribute [local go_sem] Oper.semAt_some

/-- what has come when k rounds are over: from the last on -/
def upto {α : Type} (f : Nat → α) (k : Nat) : List α := (List.range k).map f
theorem upto_succ {α : Type} (f : Nat → α) (k : Nat) : upto f (k + 1) = upto f k ++ [f k] := by simp [upto, List.range_succ]
theorem upto_length {α : Type} (f : Nat → α) (k : Nat) : (upto f k).length = k := by simp [upto]

theorem run_ix' (b off len cap k : Nat) (hk : k < len) (w : World) : (Instr.indexAt 39 (.slice (some ⟨b, off, none⟩) len cap) (.int .i64 (k : Int))).run Try.prog w = .ok (.pointer (some ⟨b, off + k * 4, none⟩)) w :=
  Ex.run_ix 39 24 b off len cap 4 k sl39 sz24 hk w

/-- what a round keeps: what lay below n₀, and the block B -/
def KpB (n₀ B : Nat) (W W' : World) : Prop := Below n₀ W W' ∧ W'.heap[B]? = W.heap[B]?
theorem KpB.refl (n₀ B : Nat) (W : World) : KpB n₀ B W W := ⟨Below.refl _ _, rfl⟩
theorem KpB.trans {n₀ B : Nat} {X Y Z : World} (h : KpB n₀ B X Y) (k : KpB n₀ B Y Z) : KpB n₀ B X Z := ⟨h.1.trans k.1, k.2.trans h.2⟩
theorem KpB.cell {n₀ B : Nat} {W W' : World} (h : KpB n₀ B W W') : W'.cell? ⟨B, 0, none⟩ = W.cell? ⟨B, 0, none⟩ := World.cell?_of_block h.2


set_option maxRecDepth 100000 in
set_option maxHeartbeats 2000000 in
theorem back1_in {α : Type} (encs : α → Array Value) (f : Nat → α) (F : Fence) (n : Nat) (h136 : F.fn 136) (hro : F.round = none) (hn : 1 ≤ n) (l Bs n₀ b off cap : Nat) (zs : List Nat) (hlen : zs.length ≤ 64) (hb : b < n₀) (hf : ∀ k, k < zs.length → encs (f k) = #[I ((zs.length - 1 - k : Nat) : Int), NV (zs[zs.length - 1 - k]?.getD 0)]) (J Jx : List α → World → Prop)
    (hY : ∀ pre x W, J pre W → pre.length < zs.length → YieldAt F (n - 1) Try.prog l (encs x) W fun e W' =>
      (e = .returned (.bool true) ∧ J (pre ++ [x]) W' ∧ KpB n₀ Bs W W') ∨ (e = .returned (.bool false) ∧ Jx (pre ++ [x]) W'))
    (W : World) (hBs : W.cell? ⟨Bs, 0, none⟩ = some (.slice (some ⟨b, off, none⟩) zs.length cap)) (hc : ∀ j, j < zs.length → W.rangeAt b (off + j * 4) (nl (zs[j]?.getD 0))) (h0 : J [] W) :
    CallsIn F n Try.prog 136 #[.func (.yield l) #[] #[], .pointer (some ⟨Bs, 0, none⟩)] W fun e W' => (∃ v, e = .returned v) ∧
      ((∃ ys, ys = upto f zs.length ∧ J ys W') ∨ (∃ pre, (∃ k, k ≤ zs.length ∧ pre = upto f k) ∧ Jx pre W')) := by
  refine callsIn_of_wp Try.func136 rfl h136 ?_ hro
  simp only [Try.ntmps136, List.size_toArray, List.length_cons, List.length_nil, Nat.reduceAdd, Nat.reduceSub, Array.replicate_succ, Array.replicate_zero, List.push_toArray, List.append_toArray, List.nil_append, List.cons_append]
  gi_wp2
  gi_loopw [3] (fun i wr => ∃ k : Nat, k ≤ zs.length ∧ i = .int .i64 ((zs.length : Int) - 1 - k) ∧ J (upto f k) wr ∧ KpB n₀ Bs W wr)
    (fun i _ => (intOf i + 1).toNat)
  case atStart => exact ⟨0, Nat.zero_le _, by simp, h0, KpB.refl _ _ _⟩
  case round =>
    obtain ⟨k, hk, rfl, hJs, hnx⟩ := hrel
    by_cases hlt : k < zs.length
    · obtain ⟨fn, tmps, assign, body, hy, hR⟩ := hY _ (f k) wr hJs (by rw [upto_length]; exact hlt)
      have e1 : ((zs.length : Int) - 1 - k) = ((zs.length - 1 - k : Nat) : Int) := by omega
      have hj : zs.length - 1 - k < zs.length := by omega
      have hcx : wr.rangeAt b (off + (zs.length - 1 - k) * 4) (nl (zs[zs.length - 1 - k]?.getD 0)) := fun j v hv => (hnx.1.cell (p := ⟨b, off + (zs.length - 1 - k) * 4 + j, none⟩) hb).trans (hc _ hj j v hv)
      have hix := run_ix' b off zs.length cap _ hj wr
      have hc0 : wr.cell? ⟨b, off + (zs.length - 1 - k) * 4, none⟩ = some (U (l0 (zs[zs.length - 1 - k]?.getD 0))) := hcx 0 _ rfl
      have hc1 : wr.cell? ⟨b, off + (zs.length - 1 - k) * 4 + 1, none⟩ = some (U (l1 (zs[zs.length - 1 - k]?.getD 0))) := hcx 1 _ rfl
      have hc2 : wr.cell? ⟨b, off + (zs.length - 1 - k) * 4 + 2, none⟩ = some (U (l2 (zs[zs.length - 1 - k]?.getD 0))) := hcx 2 _ rfl
      have hc3 : wr.cell? ⟨b, off + (zs.length - 1 - k) * 4 + 3, none⟩ = some (U (l3 (zs[zs.length - 1 - k]?.getD 0))) := hcx 3 _ rfl
      have hBs' := hnx.cell.trans hBs
      rw [hf k hlt] at hy
      unfold I NV at hy
      generalize zs[zs.length - 1 - k]?.getD 0 = x at hy hc0 hc1 hc2 hc3
      rw [e1]
      generalize hm : zs.length - 1 - k = m at *
      gi_wp2
      refine hR.mono ?_
      rintro e W3 (⟨rfl, hJ3, hk3⟩ | ⟨rfl, hJx3⟩)
      · gi_wp2
        go_roundw
        case rel => exact ⟨k + 1, by omega, by congr 1; omega, by rw [upto_succ]; exact hJ3, hnx.trans hk3⟩
        case measure => simp [intOf]
      · gi_wp2
        refine bodyPost_ret (results_none rfl _ _ _) rfl ?_
        exact ⟨⟨_, rfl⟩, .inr ⟨_, ⟨k + 1, by omega, (upto_succ _ _).symm⟩, hJx3⟩⟩
    · obtain rfl : k = zs.length := by omega
      gi_wp2
      go_end0
      exact ⟨⟨_, rfl⟩, .inl ⟨_, rfl, hJs⟩⟩

/-- slices.Backward's value -/
theorem back_stops {α : Type} (encs : α → Array Value) (f : Nat → α) (F : Fence) (n : Nat) (h136 : F.fn 136) (hro : F.round = none) (hn : 1 ≤ n) (Bs n₀ b off cap : Nat) (zs : List Nat) (hlen : zs.length ≤ 64) (hb : b < n₀) (hf : ∀ k, k < zs.length → encs (f k) = #[I ((zs.length - 1 - k : Nat) : Int), NV (zs[zs.length - 1 - k]?.getD 0)])
    (w : World) (hn₀ : n₀ ≤ w.heap.size) (hB : Bs < w.heap.size) (hBs : w.cell? ⟨Bs, 0, none⟩ = some (.slice (some ⟨b, off, none⟩) zs.length cap)) (hc : ∀ j, j < zs.length → w.rangeAt b (off + j * 4) (nl (zs[j]?.getD 0))) :
    SeqStopsK F n Try.prog 136 #[.pointer (some ⟨Bs, 0, none⟩)] encs (KpB n₀ Bs) (fun ys => ys = upto f zs.length) (fun pre => ∃ k, k ≤ zs.length ∧ pre = upto f k) zs.length w := fun l J Jx W hW _ _ hY h0 =>
  back1_in encs f F n h136 hro hn l Bs n₀ b off cap zs hlen hb hf J Jx hY W ((hW.cell (p := ⟨Bs, 0, none⟩) hB).trans hBs) (fun j hj i v hv => (hW.cell (p := ⟨b, off + j * 4 + i, none⟩) (Nat.lt_of_lt_of_le hb hn₀)).trans (hc j hj i v hv)) h0

end Go.Proofs.Ytildcmggcbdhpaa
