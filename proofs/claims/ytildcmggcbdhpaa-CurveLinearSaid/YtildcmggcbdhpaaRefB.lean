/- The document's answers, layer 2: products. No conditions but that numbers are below R. -/
import Derived.Test.YtildcmggcbdhpaaRefA
namespace Go.Proofs.Ytildcmggcbdhpaa
open Go.Ex Go.RowKit Lim

def tmac (x y o c : Nat) : List Rec :=
  [pc 130 [U x, U y] (.tuple #[U (mhi x y), U (mlo x y)]), addF 44 (mlo x y) o 0, addF 50 (a1 x y o) c 0, rn 60 (.int .u64 (IntKind.u64.wrap ((mhi x y : Nat) + (c1 x y o : Nat)))) (U (h1 x y o)),
    rn 62 (.int .u64 (IntKind.u64.wrap ((h1 x y o : Nat) + (c2 x y o c : Nat)))) (U (h2 x y o c))]
theorem tmac_ok {x y o c : Nat} (w : World) (hx : x < B) (hy : y < B) (ho : o < B) (hc : c < B) : RecsOk w (tmac x y o c) := by
  obtain ⟨_, _, m3, m4, _, _⟩ := mac x y o c hx hy ho hc
  refine ⟨pc_ok (f130_ok hx hy), addF_ok (by omega), addF_ok (by omega), rn_ok ?_, rn_ok ?_, trivial⟩
  · rw [← Int.natCast_add]
    show Value.int .u64 (IntKind.u64.wrap ((h1 x y o : Nat) : Int)) = _
    rw [wrap_in m4]
  · rw [← Int.natCast_add]
    show Value.int .u64 (IntKind.u64.wrap ((h2 x y o c : Nat) : Int)) = _
    rw [wrap_in m3]
def trow (x : Nat) : List Nat → List Nat → Nat → List Rec
  | y :: ys, o :: os, c => tmac x y o c ++ trow x ys os (h2 x y o c)
  | _, _, _ => []
theorem trow_ok {x : Nat} (w : World) (hx : x < B) : ∀ (ys os : List Nat) (c : Nat), Dig ys → Dig os → c < B → RecsOk w (trow x ys os c)
  | y :: ys, o :: os, c, hy, ho, hc =>
    (tmac_ok w hx hy.head ho.head hc).append (trow_ok w hx ys os _ hy.tail ho.tail (mac x y o c hx hy.head ho.head hc).2.2.1)
  | [], [], _, _, _, _ => trivial
  | [], _ :: _, _, _, _, _ => trivial
  | _ :: _, [], _, _, _, _ => trivial

def U8 (g : Nat) (o0 o1 o2 o3 o4 o5 o6 o7 : Nat) (own : Bool) : Ent := ⟨g, [U o0, U o1, U o2, U o3, U o4, U o5, U o6, U o7], [], 116, own⟩
noncomputable def tmC : Code := (loopsOf (Fx Try.f110)).getD 0 .skip
noncomputable def tmS (a b : Nat) (gl : List Nat) (v : Value) (os : List Nat) : St :=
  ⟨frOf Try.f110.ntmps [(2, PT (gl.getD 0 0)), (3, PT (gl.getD 1 0)), (4, PT (gl.getD 2 0)), (5, PT (gl.getD 3 0)), (6, v)], tgOf Try.f110.ntmps [(2, .at_ 0), (3, .at_ 1), (4, .at_ 2), (5, .at_ 3)],
    [numE (gl.getD 0 0) a true, numE (gl.getD 1 0) b true, wideE (gl.getD 2 0) 0 true, ⟨gl.getD 3 0, os.map fun n => U n, [], 116, true⟩]⟩

/-- the words of a round -/
def tpart (i : Nat) (os : List Nat) : List Nat := (os.drop i).take 4
def tnext (i x : Nat) (ys os : List Nat) : List Nat := os.take i ++ ((mrow x ys (tpart i os) 0).1 ++ ((mrow x ys (tpart i os) 0).2 :: os.drop (i + 5)))

theorem tm_go0 (a b : Nat) (gl : List Nat) (o0 o1 o2 o3 o4 o5 o6 o7 : Nat) (γ : Nat → Nat) : ∀ i, i < 4 →
    endL (tmS a b gl (I ((i + 1 : Nat) : Int)) [o0, o1, o2, o3, o4, o5, o6, o7]) (exec Try.prog tmC ⟨tmS a b gl (I (i : Nat)) [o0, o1, o2, o3, o4, o5, o6, o7], (List.range 8).map γ, [rn 22 (eqX (dg a i)) (.bool true)], []⟩) =
      endR .normal (tmS a b gl (I ((i + 1 : Nat) : Int)) [o0, o1, o2, o3, o4, o5, o6, o7]) (exec Try.prog tmC ⟨tmS a b gl (I (i : Nat)) [o0, o1, o2, o3, o4, o5, o6, o7], (List.range 8).map γ, [rn 22 (eqX (dg a i)) (.bool true)], []⟩)
  | 0, _ => by kernel_rfl
  | 1, _ => by kernel_rfl
  | 2, _ => by kernel_rfl
  | 3, _ => by kernel_rfl
theorem tm_go1 (a b : Nat) (gl : List Nat) (o0 o1 o2 o3 o4 o5 o6 o7 : Nat) (γ : Nat → Nat) : ∀ i, i < 4 →
    endL (tmS a b gl (I ((i + 1 : Nat) : Int)) (tnext i (dg a i) (L4 b) [o0, o1, o2, o3, o4, o5, o6, o7])) (exec Try.prog tmC ⟨tmS a b gl (I (i : Nat)) [o0, o1, o2, o3, o4, o5, o6, o7], (List.range 8).map γ, rn 22 (eqX (dg a i)) (.bool false) :: trow (dg a i) (L4 b) (tpart i [o0, o1, o2, o3, o4, o5, o6, o7]) 0, []⟩) =
      endR .normal (tmS a b gl (I ((i + 1 : Nat) : Int)) (tnext i (dg a i) (L4 b) [o0, o1, o2, o3, o4, o5, o6, o7])) (exec Try.prog tmC ⟨tmS a b gl (I (i : Nat)) [o0, o1, o2, o3, o4, o5, o6, o7], (List.range 8).map γ, rn 22 (eqX (dg a i)) (.bool false) :: trow (dg a i) (L4 b) (tpart i [o0, o1, o2, o3, o4, o5, o6, o7]) 0, []⟩)
  | 0, _ => by kernel_rfl
  | 1, _ => by kernel_rfl
  | 2, _ => by kernel_rfl
  | 3, _ => by kernel_rfl
theorem tm_stop (a b : Nat) (gl : List Nat) (o0 o1 o2 o3 o4 o5 o6 o7 : Nat) (γ : Nat → Nat) :
    endL (tmS a b gl (I 4) [o0, o1, o2, o3, o4, o5, o6, o7]) (exec Try.prog tmC ⟨tmS a b gl (I 4) [o0, o1, o2, o3, o4, o5, o6, o7], (List.range 8).map γ, [], []⟩) =
      endR (.exit 0) (tmS a b gl (I 4) [o0, o1, o2, o3, o4, o5, o6, o7]) (exec Try.prog tmC ⟨tmS a b gl (I 4) [o0, o1, o2, o3, o4, o5, o6, o7], (List.range 8).map γ, [], []⟩) := by kernel_rfl

end Go.Proofs.Ytildcmggcbdhpaa
