/-
  No cell of these rows narrows 'for every input' (looked for: loops, veiled, ifaces, maps, wideKeys, modest, calm, conditions, laid).
  DERIVED. THE GIVEN ROWS OF THIS SEAT. 14 by the template 'for every input the law returns true; each argument reads behind the call as it read before'; 0 by the template 'total and deterministic' (their statements: YtildcmggcbdhpaaTotals.lean).
  GIVEN WITH THE SEED: the statements are not yours to turn. If you find one false, say at which input.
  Laid BY PROGRAM, IN A SANDBOX (cutbox-rows.mjs): the forced cells as the released guide's own fill.sh prints them over the translation 2b337faf60987e6d… (all of the seat's roots in one cut). By AI agents, Wed Nov 11 2026. No macro, syntax, notation, axiom, sorry.
-/
import Derived.Test.YtildcmggcbdhpaaChecked
import GoSem.Claim
import GoSem.ClaimJoined
import GoSem.ClaimMapViews
import Derived.JoinedTies
import Derived.KernelRfl
namespace Go.Proofs.Ytildcmggcbdhpaa
/- THE CELL 'sum', in the pinned program and in every row, IS THE sha256 OF THE DUMP (.gsa) THAT YtildcmggcbdhpaaProg.lean LOADS. Nothing in Lean hashes anything: it is a label: what it is worth is what the hold of that sum in a sandbox is worth. -/
noncomputable def Try.pinned : Pinned := { name := "ytildcmggcbdhpaa", sum := "2b337faf60987e6d13249679c4c387ce0f202ef19e0a76ed6cf04c3d945fbcc5", checked := Try.checked }
namespace Rows
def none {H : Type} : Left H := { results := [], args := [] }

/-- 'wardmotelaw03.CurveSums': WHATEVER THE INPUT: true; the input reads as it did. -/
def curveSumsSpec : ChangeSpec := { name := "curveSums", fn := fun _ => fun
  | [d1, d2] => { results := [.lit (.bool true)], args := [d1, d2] }
  | _ => none }
def curveSumsRow : OpenClaim := { program := "ytildcmggcbdhpaa", sum := "2b337faf60987e6d13249679c4c387ce0f202ef19e0a76ed6cf04c3d945fbcc5", func := "wardmote/wardmotelaw03.CurveSums", spec := "curveSums", inPlace := ["math/bits.Add64", "math/bits.Sub64"], unfollowed := true, recurses := true, apart := false }
def CurveSumsSaid : Prop := curveSumsRow.holds Try.pinned (OpenSpec.ofChange curveSumsSpec)

/-- ITS FALSE NEIGHBOUR: 'it returns false'. Refute it at one input. -/
def curveSumsWrong : ChangeSpec := { name := "curveSums", fn := fun _ => fun
  | [d1, d2] => { results := [.lit (.bool false)], args := [d1, d2] }
  | _ => none }
def CurveSumsWrongFalsely : Prop := curveSumsRow.holds Try.pinned (OpenSpec.ofChange curveSumsWrong)

/-- 'wardmotelaw03.CurveGroup': WHATEVER THE INPUT: true; the input reads as it did. -/
def curveGroupSpec : ChangeSpec := { name := "curveGroup", fn := fun _ => fun
  | [d1, d2, d3] => { results := [.lit (.bool true)], args := [d1, d2, d3] }
  | _ => none }
def curveGroupRow : OpenClaim := { program := "ytildcmggcbdhpaa", sum := "2b337faf60987e6d13249679c4c387ce0f202ef19e0a76ed6cf04c3d945fbcc5", func := "wardmote/wardmotelaw03.CurveGroup", spec := "curveGroup", inPlace := ["math/bits.Add64", "math/bits.Sub64"], unfollowed := true, recurses := true, apart := false }
def CurveGroupSaid : Prop := curveGroupRow.holds Try.pinned (OpenSpec.ofChange curveGroupSpec)

/-- ITS FALSE NEIGHBOUR: 'it returns false'. Refute it at one input. -/
def curveGroupWrong : ChangeSpec := { name := "curveGroup", fn := fun _ => fun
  | [d1, d2, d3] => { results := [.lit (.bool false)], args := [d1, d2, d3] }
  | _ => none }
def CurveGroupWrongFalsely : Prop := curveGroupRow.holds Try.pinned (OpenSpec.ofChange curveGroupWrong)

/-- 'wardmotelaw03.CurveMany': WHATEVER THE INPUT: true; the input reads as it did. -/
def curveManySpec : ChangeSpec := { name := "curveMany", fn := fun _ => fun
  | [d1, d2] => { results := [.lit (.bool true)], args := [d1, d2] }
  | _ => none }
def curveManyRow : OpenClaim := { program := "ytildcmggcbdhpaa", sum := "2b337faf60987e6d13249679c4c387ce0f202ef19e0a76ed6cf04c3d945fbcc5", func := "wardmote/wardmotelaw03.CurveMany", spec := "curveMany", inPlace := ["math/bits.Add64", "math/bits.Sub64"], unfollowed := true, recurses := true, apart := false }
def CurveManySaid : Prop := curveManyRow.holds Try.pinned (OpenSpec.ofChange curveManySpec)

/-- ITS FALSE NEIGHBOUR: 'it returns false'. Refute it at one input. -/
def curveManyWrong : ChangeSpec := { name := "curveMany", fn := fun _ => fun
  | [d1, d2] => { results := [.lit (.bool false)], args := [d1, d2] }
  | _ => none }
def CurveManyWrongFalsely : Prop := curveManyRow.holds Try.pinned (OpenSpec.ofChange curveManyWrong)

/-- 'wardmotelaw03.CurveTimes': WHATEVER THE INPUT: true; the input reads as it did. -/
def curveTimesSpec : ChangeSpec := { name := "curveTimes", fn := fun _ => fun
  | [d1, d2] => { results := [.lit (.bool true)], args := [d1, d2] }
  | _ => none }
def curveTimesRow : OpenClaim := { program := "ytildcmggcbdhpaa", sum := "2b337faf60987e6d13249679c4c387ce0f202ef19e0a76ed6cf04c3d945fbcc5", func := "wardmote/wardmotelaw03.CurveTimes", spec := "curveTimes", inPlace := ["math/bits.Add64", "math/bits.Sub64"], unfollowed := true, recurses := true, apart := false }
def CurveTimesSaid : Prop := curveTimesRow.holds Try.pinned (OpenSpec.ofChange curveTimesSpec)

/-- ITS FALSE NEIGHBOUR: 'it returns false'. Refute it at one input. -/
def curveTimesWrong : ChangeSpec := { name := "curveTimes", fn := fun _ => fun
  | [d1, d2] => { results := [.lit (.bool false)], args := [d1, d2] }
  | _ => none }
def CurveTimesWrongFalsely : Prop := curveTimesRow.holds Try.pinned (OpenSpec.ofChange curveTimesWrong)

/-- 'wardmotelaw03.CurveLinear': WHATEVER THE INPUT: true; the input reads as it did. -/
def curveLinearSpec : ChangeSpec := { name := "curveLinear", fn := fun _ => fun
  | [d1, d2, d3] => { results := [.lit (.bool true)], args := [d1, d2, d3] }
  | _ => none }
def curveLinearRow : OpenClaim := { program := "ytildcmggcbdhpaa", sum := "2b337faf60987e6d13249679c4c387ce0f202ef19e0a76ed6cf04c3d945fbcc5", func := "wardmote/wardmotelaw03.CurveLinear", spec := "curveLinear", inPlace := ["math/bits.Add64", "math/bits.Sub64"], unfollowed := true, recurses := true, apart := false }
def CurveLinearSaid : Prop := curveLinearRow.holds Try.pinned (OpenSpec.ofChange curveLinearSpec)

/-- ITS FALSE NEIGHBOUR: 'it returns false'. Refute it at one input. -/
def curveLinearWrong : ChangeSpec := { name := "curveLinear", fn := fun _ => fun
  | [d1, d2, d3] => { results := [.lit (.bool false)], args := [d1, d2, d3] }
  | _ => none }
def CurveLinearWrongFalsely : Prop := curveLinearRow.holds Try.pinned (OpenSpec.ofChange curveLinearWrong)

/-- 'wardmotelaw03.CurveOrder': WHATEVER THE INPUT: true; the input reads as it did. -/
def curveOrderSpec : ChangeSpec := { name := "curveOrder", fn := fun _ => fun
  | [d1, d2] => { results := [.lit (.bool true)], args := [d1, d2] }
  | _ => none }
def curveOrderRow : OpenClaim := { program := "ytildcmggcbdhpaa", sum := "2b337faf60987e6d13249679c4c387ce0f202ef19e0a76ed6cf04c3d945fbcc5", func := "wardmote/wardmotelaw03.CurveOrder", spec := "curveOrder", inPlace := ["math/bits.Add64", "math/bits.Sub64"], unfollowed := true, recurses := true, apart := false }
def CurveOrderSaid : Prop := curveOrderRow.holds Try.pinned (OpenSpec.ofChange curveOrderSpec)

/-- ITS FALSE NEIGHBOUR: 'it returns false'. Refute it at one input. -/
def curveOrderWrong : ChangeSpec := { name := "curveOrder", fn := fun _ => fun
  | [d1, d2] => { results := [.lit (.bool false)], args := [d1, d2] }
  | _ => none }
def CurveOrderWrongFalsely : Prop := curveOrderRow.holds Try.pinned (OpenSpec.ofChange curveOrderWrong)

/-- 'wardmotelaw03.CurveCounts': WHATEVER THE INPUT: true; the input reads as it did. -/
def curveCountsSpec : ChangeSpec := { name := "curveCounts", fn := fun _ => fun
  | [d1, d2] => { results := [.lit (.bool true)], args := [d1, d2] }
  | _ => none }
def curveCountsRow : OpenClaim := { program := "ytildcmggcbdhpaa", sum := "2b337faf60987e6d13249679c4c387ce0f202ef19e0a76ed6cf04c3d945fbcc5", func := "wardmote/wardmotelaw03.CurveCounts", spec := "curveCounts", inPlace := ["math/bits.Add64", "math/bits.Sub64"], unfollowed := true, recurses := true, apart := false }
def CurveCountsSaid : Prop := curveCountsRow.holds Try.pinned (OpenSpec.ofChange curveCountsSpec)

/-- ITS FALSE NEIGHBOUR: 'it returns false'. Refute it at one input. -/
def curveCountsWrong : ChangeSpec := { name := "curveCounts", fn := fun _ => fun
  | [d1, d2] => { results := [.lit (.bool false)], args := [d1, d2] }
  | _ => none }
def CurveCountsWrongFalsely : Prop := curveCountsRow.holds Try.pinned (OpenSpec.ofChange curveCountsWrong)

/-- 'wardmotelaw03.CurveBytes': WHATEVER THE INPUT: true; the input reads as it did. -/
def curveBytesSpec : ChangeSpec := { name := "curveBytes", fn := fun _ => fun
  | [d1, d2] => { results := [.lit (.bool true)], args := [d1, d2] }
  | _ => none }
def curveBytesRow : OpenClaim := { program := "ytildcmggcbdhpaa", sum := "2b337faf60987e6d13249679c4c387ce0f202ef19e0a76ed6cf04c3d945fbcc5", func := "wardmote/wardmotelaw03.CurveBytes", spec := "curveBytes", inPlace := ["math/bits.Add64", "math/bits.Sub64"], unfollowed := true, recurses := true, apart := false }
def CurveBytesSaid : Prop := curveBytesRow.holds Try.pinned (OpenSpec.ofChange curveBytesSpec)

/-- ITS FALSE NEIGHBOUR: 'it returns false'. Refute it at one input. -/
def curveBytesWrong : ChangeSpec := { name := "curveBytes", fn := fun _ => fun
  | [d1, d2] => { results := [.lit (.bool false)], args := [d1, d2] }
  | _ => none }
def CurveBytesWrongFalsely : Prop := curveBytesRow.holds Try.pinned (OpenSpec.ofChange curveBytesWrong)

/-- 'wardmotelaw07.FeldCommits': WHATEVER THE INPUT: true; the input reads as it did. -/
def feldCommitsSpec : ChangeSpec := { name := "feldCommits", fn := fun _ => fun
  | [d] => { results := [.lit (.bool true)], args := [d] }
  | _ => none }
def feldCommitsRow : OpenClaim := { program := "ytildcmggcbdhpaa", sum := "2b337faf60987e6d13249679c4c387ce0f202ef19e0a76ed6cf04c3d945fbcc5", func := "wardmote/wardmotelaw07.FeldCommits", spec := "feldCommits", inPlace := ["math/bits.Add64", "math/bits.Sub64"], unfollowed := true, recurses := true, apart := false }
def FeldCommitsSaid : Prop := feldCommitsRow.holds Try.pinned (OpenSpec.ofChange feldCommitsSpec)

/-- ITS FALSE NEIGHBOUR: 'it returns false'. Refute it at one input. -/
def feldCommitsWrong : ChangeSpec := { name := "feldCommits", fn := fun _ => fun
  | [d] => { results := [.lit (.bool false)], args := [d] }
  | _ => none }
def FeldCommitsWrongFalsely : Prop := feldCommitsRow.holds Try.pinned (OpenSpec.ofChange feldCommitsWrong)

/-- 'wardmotelaw07.FeldValues': WHATEVER THE INPUT: true; the input reads as it did. -/
def feldValuesSpec : ChangeSpec := { name := "feldValues", fn := fun _ => fun
  | [d1, d2, d3] => { results := [.lit (.bool true)], args := [d1, d2, d3] }
  | _ => none }
def feldValuesRow : OpenClaim := { program := "ytildcmggcbdhpaa", sum := "2b337faf60987e6d13249679c4c387ce0f202ef19e0a76ed6cf04c3d945fbcc5", func := "wardmote/wardmotelaw07.FeldValues", spec := "feldValues", inPlace := ["math/bits.Add64", "math/bits.Sub64"], unfollowed := true, recurses := true, apart := false }
def FeldValuesSaid : Prop := feldValuesRow.holds Try.pinned (OpenSpec.ofChange feldValuesSpec)

/-- ITS FALSE NEIGHBOUR: 'it returns false'. Refute it at one input. -/
def feldValuesWrong : ChangeSpec := { name := "feldValues", fn := fun _ => fun
  | [d1, d2, d3] => { results := [.lit (.bool false)], args := [d1, d2, d3] }
  | _ => none }
def FeldValuesWrongFalsely : Prop := feldValuesRow.holds Try.pinned (OpenSpec.ofChange feldValuesWrong)

/-- 'wardmotelaw07.FeldTells': WHATEVER THE INPUT: true; the input reads as it did. -/
def feldTellsSpec : ChangeSpec := { name := "feldTells", fn := fun _ => fun
  | [d1, d2, d3] => { results := [.lit (.bool true)], args := [d1, d2, d3] }
  | _ => none }
def feldTellsRow : OpenClaim := { program := "ytildcmggcbdhpaa", sum := "2b337faf60987e6d13249679c4c387ce0f202ef19e0a76ed6cf04c3d945fbcc5", func := "wardmote/wardmotelaw07.FeldTells", spec := "feldTells", inPlace := ["math/bits.Add64", "math/bits.Sub64"], unfollowed := true, recurses := true, apart := false }
def FeldTellsSaid : Prop := feldTellsRow.holds Try.pinned (OpenSpec.ofChange feldTellsSpec)

/-- ITS FALSE NEIGHBOUR: 'it returns false'. Refute it at one input. -/
def feldTellsWrong : ChangeSpec := { name := "feldTells", fn := fun _ => fun
  | [d1, d2, d3] => { results := [.lit (.bool false)], args := [d1, d2, d3] }
  | _ => none }
def FeldTellsWrongFalsely : Prop := feldTellsRow.holds Try.pinned (OpenSpec.ofChange feldTellsWrong)

/-- 'wardmotelaw07.FeldSums': WHATEVER THE INPUT: true; the input reads as it did. -/
def feldSumsSpec : ChangeSpec := { name := "feldSums", fn := fun _ => fun
  | [d] => { results := [.lit (.bool true)], args := [d] }
  | _ => none }
def feldSumsRow : OpenClaim := { program := "ytildcmggcbdhpaa", sum := "2b337faf60987e6d13249679c4c387ce0f202ef19e0a76ed6cf04c3d945fbcc5", func := "wardmote/wardmotelaw07.FeldSums", spec := "feldSums", inPlace := ["math/bits.Add64", "math/bits.Sub64"], unfollowed := true, recurses := true, apart := false }
def FeldSumsSaid : Prop := feldSumsRow.holds Try.pinned (OpenSpec.ofChange feldSumsSpec)

/-- ITS FALSE NEIGHBOUR: 'it returns false'. Refute it at one input. -/
def feldSumsWrong : ChangeSpec := { name := "feldSums", fn := fun _ => fun
  | [d] => { results := [.lit (.bool false)], args := [d] }
  | _ => none }
def FeldSumsWrongFalsely : Prop := feldSumsRow.holds Try.pinned (OpenSpec.ofChange feldSumsWrong)

/-- 'wardmotelaw07.FeldAdds': WHATEVER THE INPUT: true; the input reads as it did. -/
def feldAddsSpec : ChangeSpec := { name := "feldAdds", fn := fun _ => fun
  | [d1, d2] => { results := [.lit (.bool true)], args := [d1, d2] }
  | _ => none }
def feldAddsRow : OpenClaim := { program := "ytildcmggcbdhpaa", sum := "2b337faf60987e6d13249679c4c387ce0f202ef19e0a76ed6cf04c3d945fbcc5", func := "wardmote/wardmotelaw07.FeldAdds", spec := "feldAdds", inPlace := ["math/bits.Add64", "math/bits.Sub64"], unfollowed := true, recurses := true, apart := false }
def FeldAddsSaid : Prop := feldAddsRow.holds Try.pinned (OpenSpec.ofChange feldAddsSpec)

/-- ITS FALSE NEIGHBOUR: 'it returns false'. Refute it at one input. -/
def feldAddsWrong : ChangeSpec := { name := "feldAdds", fn := fun _ => fun
  | [d1, d2] => { results := [.lit (.bool false)], args := [d1, d2] }
  | _ => none }
def FeldAddsWrongFalsely : Prop := feldAddsRow.holds Try.pinned (OpenSpec.ofChange feldAddsWrong)

/-- 'wardmotelaw07.FeldBytes': WHATEVER THE INPUT: true; the input reads as it did. -/
def feldBytesSpec : ChangeSpec := { name := "feldBytes", fn := fun _ => fun
  | [d1, d2] => { results := [.lit (.bool true)], args := [d1, d2] }
  | _ => none }
def feldBytesRow : OpenClaim := { program := "ytildcmggcbdhpaa", sum := "2b337faf60987e6d13249679c4c387ce0f202ef19e0a76ed6cf04c3d945fbcc5", func := "wardmote/wardmotelaw07.FeldBytes", spec := "feldBytes", inPlace := ["math/bits.Add64", "math/bits.Sub64"], unfollowed := true, recurses := true, apart := false }
def FeldBytesSaid : Prop := feldBytesRow.holds Try.pinned (OpenSpec.ofChange feldBytesSpec)

/-- ITS FALSE NEIGHBOUR: 'it returns false'. Refute it at one input. -/
def feldBytesWrong : ChangeSpec := { name := "feldBytes", fn := fun _ => fun
  | [d1, d2] => { results := [.lit (.bool false)], args := [d1, d2] }
  | _ => none }
def FeldBytesWrongFalsely : Prop := feldBytesRow.holds Try.pinned (OpenSpec.ofChange feldBytesWrong)

/- THE SECOND FORM. 'bulk': how many values and letters a reading holds, each counted each time it is reached (what is shared counts as often as it is met; a slice's spare places count too). A statement '..UptoSaid' is the law's where the arguments, and the package variables that the reading takes, are together of bulk at most 1048576: NARROWER than '..Said'. Prove '..Said' where nothing that the law and all that it calls make is longer than what came in: it says more and counts as full. Else prove '..UptoSaid'. A law counts once. -/
mutual
def uptoBulk {H : Type} : DataW H → Nat
  | .lit (.string bytes) => bytes.length + 1
  | .lit _ => 1
  | .nil => 1
  | .ptr d => uptoBulk d + 1
  | .slice elems spare => uptoBulkAll elems + uptoBulkAll spare + 1
  | .agg parts => uptoBulkAll parts + 1
  | .iface _ d => uptoBulk d + 1
  | .map entries => uptoBulkEntries entries + 1
  | .held _ => 1
def uptoBulkAll {H : Type} : List (DataW H) → Nat
  | [] => 0
  | d :: r => uptoBulk d + uptoBulkAll r
def uptoBulkEntries {H : Type} : List (Lit × DataW H) → Nat
  | [] => 0
  | x :: r => uptoBulkEntry x + uptoBulkEntries r
def uptoBulkEntry {H : Type} : Lit × DataW H → Nat
  | (.string bytes, d) => bytes.length + uptoBulk d + 1
  | (_, d) => uptoBulk d + 1
 end
def uptoSmall : (H : Type) → List (DataW H) → Bool := fun _ ds => decide (uptoBulkAll ds ≤ 1048576)
def OpenSpec.upto (s : _root_.Go.ChangeSpec) : _root_.Go.OpenSpec := { _root_.Go.OpenSpec.ofChange s with cond := some uptoSmall }

/-- 'wardmotelaw03.CurveSums', WHERE WHAT IT READS IS OF BULK AT MOST 1048576: true; the input reads as it did. -/
def curveSumsUptoRow : OpenClaim := { program := "ytildcmggcbdhpaa", sum := "2b337faf60987e6d13249679c4c387ce0f202ef19e0a76ed6cf04c3d945fbcc5", func := "wardmote/wardmotelaw03.CurveSums", spec := "curveSums", inPlace := ["math/bits.Add64", "math/bits.Sub64"], unfollowed := true, recurses := true, apart := false, narrowed := true }
def CurveSumsUptoSaid : Prop := curveSumsUptoRow.holds Try.pinned (OpenSpec.upto curveSumsSpec)

/-- 'wardmotelaw03.CurveGroup', WHERE WHAT IT READS IS OF BULK AT MOST 1048576: true; the input reads as it did. -/
def curveGroupUptoRow : OpenClaim := { program := "ytildcmggcbdhpaa", sum := "2b337faf60987e6d13249679c4c387ce0f202ef19e0a76ed6cf04c3d945fbcc5", func := "wardmote/wardmotelaw03.CurveGroup", spec := "curveGroup", inPlace := ["math/bits.Add64", "math/bits.Sub64"], unfollowed := true, recurses := true, apart := false, narrowed := true }
def CurveGroupUptoSaid : Prop := curveGroupUptoRow.holds Try.pinned (OpenSpec.upto curveGroupSpec)

/-- 'wardmotelaw03.CurveMany', WHERE WHAT IT READS IS OF BULK AT MOST 1048576: true; the input reads as it did. -/
def curveManyUptoRow : OpenClaim := { program := "ytildcmggcbdhpaa", sum := "2b337faf60987e6d13249679c4c387ce0f202ef19e0a76ed6cf04c3d945fbcc5", func := "wardmote/wardmotelaw03.CurveMany", spec := "curveMany", inPlace := ["math/bits.Add64", "math/bits.Sub64"], unfollowed := true, recurses := true, apart := false, narrowed := true }
def CurveManyUptoSaid : Prop := curveManyUptoRow.holds Try.pinned (OpenSpec.upto curveManySpec)

/-- 'wardmotelaw03.CurveTimes', WHERE WHAT IT READS IS OF BULK AT MOST 1048576: true; the input reads as it did. -/
def curveTimesUptoRow : OpenClaim := { program := "ytildcmggcbdhpaa", sum := "2b337faf60987e6d13249679c4c387ce0f202ef19e0a76ed6cf04c3d945fbcc5", func := "wardmote/wardmotelaw03.CurveTimes", spec := "curveTimes", inPlace := ["math/bits.Add64", "math/bits.Sub64"], unfollowed := true, recurses := true, apart := false, narrowed := true }
def CurveTimesUptoSaid : Prop := curveTimesUptoRow.holds Try.pinned (OpenSpec.upto curveTimesSpec)

/-- 'wardmotelaw03.CurveLinear', WHERE WHAT IT READS IS OF BULK AT MOST 1048576: true; the input reads as it did. -/
def curveLinearUptoRow : OpenClaim := { program := "ytildcmggcbdhpaa", sum := "2b337faf60987e6d13249679c4c387ce0f202ef19e0a76ed6cf04c3d945fbcc5", func := "wardmote/wardmotelaw03.CurveLinear", spec := "curveLinear", inPlace := ["math/bits.Add64", "math/bits.Sub64"], unfollowed := true, recurses := true, apart := false, narrowed := true }
def CurveLinearUptoSaid : Prop := curveLinearUptoRow.holds Try.pinned (OpenSpec.upto curveLinearSpec)

/-- 'wardmotelaw03.CurveOrder', WHERE WHAT IT READS IS OF BULK AT MOST 1048576: true; the input reads as it did. -/
def curveOrderUptoRow : OpenClaim := { program := "ytildcmggcbdhpaa", sum := "2b337faf60987e6d13249679c4c387ce0f202ef19e0a76ed6cf04c3d945fbcc5", func := "wardmote/wardmotelaw03.CurveOrder", spec := "curveOrder", inPlace := ["math/bits.Add64", "math/bits.Sub64"], unfollowed := true, recurses := true, apart := false, narrowed := true }
def CurveOrderUptoSaid : Prop := curveOrderUptoRow.holds Try.pinned (OpenSpec.upto curveOrderSpec)

/-- 'wardmotelaw03.CurveCounts', WHERE WHAT IT READS IS OF BULK AT MOST 1048576: true; the input reads as it did. -/
def curveCountsUptoRow : OpenClaim := { program := "ytildcmggcbdhpaa", sum := "2b337faf60987e6d13249679c4c387ce0f202ef19e0a76ed6cf04c3d945fbcc5", func := "wardmote/wardmotelaw03.CurveCounts", spec := "curveCounts", inPlace := ["math/bits.Add64", "math/bits.Sub64"], unfollowed := true, recurses := true, apart := false, narrowed := true }
def CurveCountsUptoSaid : Prop := curveCountsUptoRow.holds Try.pinned (OpenSpec.upto curveCountsSpec)

/-- 'wardmotelaw03.CurveBytes', WHERE WHAT IT READS IS OF BULK AT MOST 1048576: true; the input reads as it did. -/
def curveBytesUptoRow : OpenClaim := { program := "ytildcmggcbdhpaa", sum := "2b337faf60987e6d13249679c4c387ce0f202ef19e0a76ed6cf04c3d945fbcc5", func := "wardmote/wardmotelaw03.CurveBytes", spec := "curveBytes", inPlace := ["math/bits.Add64", "math/bits.Sub64"], unfollowed := true, recurses := true, apart := false, narrowed := true }
def CurveBytesUptoSaid : Prop := curveBytesUptoRow.holds Try.pinned (OpenSpec.upto curveBytesSpec)

/-- 'wardmotelaw07.FeldCommits', WHERE WHAT IT READS IS OF BULK AT MOST 1048576: true; the input reads as it did. -/
def feldCommitsUptoRow : OpenClaim := { program := "ytildcmggcbdhpaa", sum := "2b337faf60987e6d13249679c4c387ce0f202ef19e0a76ed6cf04c3d945fbcc5", func := "wardmote/wardmotelaw07.FeldCommits", spec := "feldCommits", inPlace := ["math/bits.Add64", "math/bits.Sub64"], unfollowed := true, recurses := true, apart := false, narrowed := true }
def FeldCommitsUptoSaid : Prop := feldCommitsUptoRow.holds Try.pinned (OpenSpec.upto feldCommitsSpec)

/-- 'wardmotelaw07.FeldValues', WHERE WHAT IT READS IS OF BULK AT MOST 1048576: true; the input reads as it did. -/
def feldValuesUptoRow : OpenClaim := { program := "ytildcmggcbdhpaa", sum := "2b337faf60987e6d13249679c4c387ce0f202ef19e0a76ed6cf04c3d945fbcc5", func := "wardmote/wardmotelaw07.FeldValues", spec := "feldValues", inPlace := ["math/bits.Add64", "math/bits.Sub64"], unfollowed := true, recurses := true, apart := false, narrowed := true }
def FeldValuesUptoSaid : Prop := feldValuesUptoRow.holds Try.pinned (OpenSpec.upto feldValuesSpec)

/-- 'wardmotelaw07.FeldTells', WHERE WHAT IT READS IS OF BULK AT MOST 1048576: true; the input reads as it did. -/
def feldTellsUptoRow : OpenClaim := { program := "ytildcmggcbdhpaa", sum := "2b337faf60987e6d13249679c4c387ce0f202ef19e0a76ed6cf04c3d945fbcc5", func := "wardmote/wardmotelaw07.FeldTells", spec := "feldTells", inPlace := ["math/bits.Add64", "math/bits.Sub64"], unfollowed := true, recurses := true, apart := false, narrowed := true }
def FeldTellsUptoSaid : Prop := feldTellsUptoRow.holds Try.pinned (OpenSpec.upto feldTellsSpec)

/-- 'wardmotelaw07.FeldSums', WHERE WHAT IT READS IS OF BULK AT MOST 1048576: true; the input reads as it did. -/
def feldSumsUptoRow : OpenClaim := { program := "ytildcmggcbdhpaa", sum := "2b337faf60987e6d13249679c4c387ce0f202ef19e0a76ed6cf04c3d945fbcc5", func := "wardmote/wardmotelaw07.FeldSums", spec := "feldSums", inPlace := ["math/bits.Add64", "math/bits.Sub64"], unfollowed := true, recurses := true, apart := false, narrowed := true }
def FeldSumsUptoSaid : Prop := feldSumsUptoRow.holds Try.pinned (OpenSpec.upto feldSumsSpec)

/-- 'wardmotelaw07.FeldAdds', WHERE WHAT IT READS IS OF BULK AT MOST 1048576: true; the input reads as it did. -/
def feldAddsUptoRow : OpenClaim := { program := "ytildcmggcbdhpaa", sum := "2b337faf60987e6d13249679c4c387ce0f202ef19e0a76ed6cf04c3d945fbcc5", func := "wardmote/wardmotelaw07.FeldAdds", spec := "feldAdds", inPlace := ["math/bits.Add64", "math/bits.Sub64"], unfollowed := true, recurses := true, apart := false, narrowed := true }
def FeldAddsUptoSaid : Prop := feldAddsUptoRow.holds Try.pinned (OpenSpec.upto feldAddsSpec)

/-- 'wardmotelaw07.FeldBytes', WHERE WHAT IT READS IS OF BULK AT MOST 1048576: true; the input reads as it did. -/
def feldBytesUptoRow : OpenClaim := { program := "ytildcmggcbdhpaa", sum := "2b337faf60987e6d13249679c4c387ce0f202ef19e0a76ed6cf04c3d945fbcc5", func := "wardmote/wardmotelaw07.FeldBytes", spec := "feldBytes", inPlace := ["math/bits.Add64", "math/bits.Sub64"], unfollowed := true, recurses := true, apart := false, narrowed := true }
def FeldBytesUptoSaid : Prop := feldBytesUptoRow.holds Try.pinned (OpenSpec.upto feldBytesSpec)

end Rows
end Go.Proofs.Ytildcmggcbdhpaa
