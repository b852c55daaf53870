/-
  No cell of these rows narrows 'for every input' (looked for: loops, veiled, ifaces, maps, wideKeys, modest, calm, conditions, laid).
  DERIVED. THE GIVEN ROWS OF THIS SEAT. 6 by the template 'for every input the law returns true; each argument reads behind the call as it read before'; 0 by the template 'total and deterministic' (their statements: YthkkhmkieknemaaTotals.lean).
  GIVEN WITH THE SEED: the statements are not yours to turn. If you find one false, say at which input.
  Laid BY PROGRAM, IN A SANDBOX (cutbox-rows.mjs): the forced cells as the released guide's own fill.sh prints them over the translation 7b9dc7c497ef360a… (all of the seat's roots in one cut). By AI agents, Wed Nov 11 2026. No macro, syntax, notation, axiom, sorry.
-/
import Derived.Test.YthkkhmkieknemaaChecked
import GoSem.Claim
import GoSem.ClaimJoined
import GoSem.ClaimMapViews
import Derived.JoinedTies
import Derived.KernelRfl
namespace Go.Proofs.Ythkkhmkieknemaa
/- THE CELL 'sum', in the pinned program and in every row, IS THE sha256 OF THE DUMP (.gsa) THAT YthkkhmkieknemaaProg.lean LOADS. Nothing in Lean hashes anything: it is a label: what it is worth is what the hold of that sum in a sandbox is worth. -/
noncomputable def Try.pinned : Pinned := { name := "ythkkhmkieknemaa", sum := "7b9dc7c497ef360a4eea5757a382343d8861c0261b0a26d562e464a1960ec79b", checked := Try.checked }
namespace Rows
def none {H : Type} : Left H := { results := [], args := [] }

/-- 'simulacrumlaw16.RingTakesAsSpecified': WHATEVER THE INPUT: true; the input reads as it did. -/
def ringTakesAsSpecifiedSpec : ChangeSpec := { name := "ringTakesAsSpecified", fn := fun _ => fun
  | [d1, d2, d3, d4] => { results := [.lit (.bool true)], args := [d1, d2, d3, d4] }
  | _ => none }
def ringTakesAsSpecifiedRow : OpenClaim := { program := "ythkkhmkieknemaa", sum := "7b9dc7c497ef360a4eea5757a382343d8861c0261b0a26d562e464a1960ec79b", func := "simulacrum/simulacrumlaw16.RingTakesAsSpecified", spec := "ringTakesAsSpecified", unfollowed := true, recurses := true, apart := false }
def RingTakesAsSpecifiedSaid : Prop := ringTakesAsSpecifiedRow.holds Try.pinned (OpenSpec.ofChange ringTakesAsSpecifiedSpec)

/-- ITS FALSE NEIGHBOUR: 'it returns false'. Refute it at one input. -/
def ringTakesAsSpecifiedWrong : ChangeSpec := { name := "ringTakesAsSpecified", fn := fun _ => fun
  | [d1, d2, d3, d4] => { results := [.lit (.bool false)], args := [d1, d2, d3, d4] }
  | _ => none }
def RingTakesAsSpecifiedWrongFalsely : Prop := ringTakesAsSpecifiedRow.holds Try.pinned (OpenSpec.ofChange ringTakesAsSpecifiedWrong)

/-- 'simulacrumlaw16.RingTouchesNothingElse': WHATEVER THE INPUT: true; the input reads as it did. -/
def ringTouchesNothingElseSpec : ChangeSpec := { name := "ringTouchesNothingElse", fn := fun _ => fun
  | [d1, d2, d3, d4] => { results := [.lit (.bool true)], args := [d1, d2, d3, d4] }
  | _ => none }
def ringTouchesNothingElseRow : OpenClaim := { program := "ythkkhmkieknemaa", sum := "7b9dc7c497ef360a4eea5757a382343d8861c0261b0a26d562e464a1960ec79b", func := "simulacrum/simulacrumlaw16.RingTouchesNothingElse", spec := "ringTouchesNothingElse", unfollowed := true, recurses := true, apart := false }
def RingTouchesNothingElseSaid : Prop := ringTouchesNothingElseRow.holds Try.pinned (OpenSpec.ofChange ringTouchesNothingElseSpec)

/-- ITS FALSE NEIGHBOUR: 'it returns false'. Refute it at one input. -/
def ringTouchesNothingElseWrong : ChangeSpec := { name := "ringTouchesNothingElse", fn := fun _ => fun
  | [d1, d2, d3, d4] => { results := [.lit (.bool false)], args := [d1, d2, d3, d4] }
  | _ => none }
def RingTouchesNothingElseWrongFalsely : Prop := ringTouchesNothingElseRow.holds Try.pinned (OpenSpec.ofChange ringTouchesNothingElseWrong)

/-- 'simulacrumlaw16.RingTakesOnce': WHATEVER THE INPUT: true; the input reads as it did. -/
def ringTakesOnceSpec : ChangeSpec := { name := "ringTakesOnce", fn := fun _ => fun
  | [d1, d2, d3] => { results := [.lit (.bool true)], args := [d1, d2, d3] }
  | _ => none }
def ringTakesOnceRow : OpenClaim := { program := "ythkkhmkieknemaa", sum := "7b9dc7c497ef360a4eea5757a382343d8861c0261b0a26d562e464a1960ec79b", func := "simulacrum/simulacrumlaw16.RingTakesOnce", spec := "ringTakesOnce", unfollowed := true, recurses := true, apart := false }
def RingTakesOnceSaid : Prop := ringTakesOnceRow.holds Try.pinned (OpenSpec.ofChange ringTakesOnceSpec)

/-- ITS FALSE NEIGHBOUR: 'it returns false'. Refute it at one input. -/
def ringTakesOnceWrong : ChangeSpec := { name := "ringTakesOnce", fn := fun _ => fun
  | [d1, d2, d3] => { results := [.lit (.bool false)], args := [d1, d2, d3] }
  | _ => none }
def RingTakesOnceWrongFalsely : Prop := ringTakesOnceRow.holds Try.pinned (OpenSpec.ofChange ringTakesOnceWrong)

/-- 'simulacrumlaw16.RingMovesAsSpecified': WHATEVER THE INPUT: true; the input reads as it did. -/
def ringMovesAsSpecifiedSpec : ChangeSpec := { name := "ringMovesAsSpecified", fn := fun _ => fun
  | [d1, d2, d3, d4] => { results := [.lit (.bool true)], args := [d1, d2, d3, d4] }
  | _ => none }
def ringMovesAsSpecifiedRow : OpenClaim := { program := "ythkkhmkieknemaa", sum := "7b9dc7c497ef360a4eea5757a382343d8861c0261b0a26d562e464a1960ec79b", func := "simulacrum/simulacrumlaw16.RingMovesAsSpecified", spec := "ringMovesAsSpecified", inPlace := ["internal/abi.NoEscape"], unfollowed := true, recurses := true, apart := false }
def RingMovesAsSpecifiedSaid : Prop := ringMovesAsSpecifiedRow.holds Try.pinned (OpenSpec.ofChange ringMovesAsSpecifiedSpec)

/-- ITS FALSE NEIGHBOUR: 'it returns false'. Refute it at one input. -/
def ringMovesAsSpecifiedWrong : ChangeSpec := { name := "ringMovesAsSpecified", fn := fun _ => fun
  | [d1, d2, d3, d4] => { results := [.lit (.bool false)], args := [d1, d2, d3, d4] }
  | _ => none }
def RingMovesAsSpecifiedWrongFalsely : Prop := ringMovesAsSpecifiedRow.holds Try.pinned (OpenSpec.ofChange ringMovesAsSpecifiedWrong)

/-- 'simulacrumlaw16.RingPartsFit': WHATEVER THE INPUT: true; the input reads as it did. -/
def ringPartsFitSpec : ChangeSpec := { name := "ringPartsFit", fn := fun _ => fun
  | [d1, d2, d3] => { results := [.lit (.bool true)], args := [d1, d2, d3] }
  | _ => none }
def ringPartsFitRow : OpenClaim := { program := "ythkkhmkieknemaa", sum := "7b9dc7c497ef360a4eea5757a382343d8861c0261b0a26d562e464a1960ec79b", func := "simulacrum/simulacrumlaw16.RingPartsFit", spec := "ringPartsFit", inPlace := ["internal/abi.NoEscape"], unfollowed := true, recurses := true, apart := false }
def RingPartsFitSaid : Prop := ringPartsFitRow.holds Try.pinned (OpenSpec.ofChange ringPartsFitSpec)

/-- ITS FALSE NEIGHBOUR: 'it returns false'. Refute it at one input. -/
def ringPartsFitWrong : ChangeSpec := { name := "ringPartsFit", fn := fun _ => fun
  | [d1, d2, d3] => { results := [.lit (.bool false)], args := [d1, d2, d3] }
  | _ => none }
def RingPartsFitWrongFalsely : Prop := ringPartsFitRow.holds Try.pinned (OpenSpec.ofChange ringPartsFitWrong)

/-- 'simulacrumlaw16.RingCarriesBytes': WHATEVER THE INPUT: true; the input reads as it did. -/
def ringCarriesBytesSpec : ChangeSpec := { name := "ringCarriesBytes", fn := fun _ => fun
  | [d1, d2, d3, d4] => { results := [.lit (.bool true)], args := [d1, d2, d3, d4] }
  | _ => none }
def ringCarriesBytesRow : OpenClaim := { program := "ythkkhmkieknemaa", sum := "7b9dc7c497ef360a4eea5757a382343d8861c0261b0a26d562e464a1960ec79b", func := "simulacrum/simulacrumlaw16.RingCarriesBytes", spec := "ringCarriesBytes", inPlace := ["internal/abi.NoEscape"], unfollowed := true, recurses := true, apart := false }
def RingCarriesBytesSaid : Prop := ringCarriesBytesRow.holds Try.pinned (OpenSpec.ofChange ringCarriesBytesSpec)

/-- ITS FALSE NEIGHBOUR: 'it returns false'. Refute it at one input. -/
def ringCarriesBytesWrong : ChangeSpec := { name := "ringCarriesBytes", fn := fun _ => fun
  | [d1, d2, d3, d4] => { results := [.lit (.bool false)], args := [d1, d2, d3, d4] }
  | _ => none }
def RingCarriesBytesWrongFalsely : Prop := ringCarriesBytesRow.holds Try.pinned (OpenSpec.ofChange ringCarriesBytesWrong)

/- THE SECOND FORM. 'bulk': how many values and letters a reading holds, each counted each time it is reached (what is shared counts as often as it is met; a slice's spare places count too). A statement '..UptoSaid' is the law's where the arguments, and the package variables that the reading takes, are together of bulk at most 1048576: NARROWER than '..Said'. Prove '..Said' where nothing that the law and all that it calls make is longer than what came in: it says more and counts as full. Else prove '..UptoSaid'. A law counts once. -/
mutual
def uptoBulk {H : Type} : DataW H → Nat
  | .lit (.string bytes) => bytes.length + 1
  | .lit _ => 1
  | .nil => 1
  | .ptr d => uptoBulk d + 1
  | .slice elems spare => uptoBulkAll elems + uptoBulkAll spare + 1
  | .agg parts => uptoBulkAll parts + 1
  | .iface _ d => uptoBulk d + 1
  | .map entries => uptoBulkEntries entries + 1
  | .held _ => 1
def uptoBulkAll {H : Type} : List (DataW H) → Nat
  | [] => 0
  | d :: r => uptoBulk d + uptoBulkAll r
def uptoBulkEntries {H : Type} : List (Lit × DataW H) → Nat
  | [] => 0
  | x :: r => uptoBulkEntry x + uptoBulkEntries r
def uptoBulkEntry {H : Type} : Lit × DataW H → Nat
  | (.string bytes, d) => bytes.length + uptoBulk d + 1
  | (_, d) => uptoBulk d + 1
 end
def uptoSmall : (H : Type) → List (DataW H) → Bool := fun _ ds => decide (uptoBulkAll ds ≤ 1048576)
def OpenSpec.upto (s : _root_.Go.ChangeSpec) : _root_.Go.OpenSpec := { _root_.Go.OpenSpec.ofChange s with cond := some uptoSmall }

/-- 'simulacrumlaw16.RingTakesAsSpecified', WHERE WHAT IT READS IS OF BULK AT MOST 1048576: true; the input reads as it did. -/
def ringTakesAsSpecifiedUptoRow : OpenClaim := { program := "ythkkhmkieknemaa", sum := "7b9dc7c497ef360a4eea5757a382343d8861c0261b0a26d562e464a1960ec79b", func := "simulacrum/simulacrumlaw16.RingTakesAsSpecified", spec := "ringTakesAsSpecified", unfollowed := true, recurses := true, apart := false, narrowed := true }
def RingTakesAsSpecifiedUptoSaid : Prop := ringTakesAsSpecifiedUptoRow.holds Try.pinned (OpenSpec.upto ringTakesAsSpecifiedSpec)

/-- 'simulacrumlaw16.RingTouchesNothingElse', WHERE WHAT IT READS IS OF BULK AT MOST 1048576: true; the input reads as it did. -/
def ringTouchesNothingElseUptoRow : OpenClaim := { program := "ythkkhmkieknemaa", sum := "7b9dc7c497ef360a4eea5757a382343d8861c0261b0a26d562e464a1960ec79b", func := "simulacrum/simulacrumlaw16.RingTouchesNothingElse", spec := "ringTouchesNothingElse", unfollowed := true, recurses := true, apart := false, narrowed := true }
def RingTouchesNothingElseUptoSaid : Prop := ringTouchesNothingElseUptoRow.holds Try.pinned (OpenSpec.upto ringTouchesNothingElseSpec)

/-- 'simulacrumlaw16.RingTakesOnce', WHERE WHAT IT READS IS OF BULK AT MOST 1048576: true; the input reads as it did. -/
def ringTakesOnceUptoRow : OpenClaim := { program := "ythkkhmkieknemaa", sum := "7b9dc7c497ef360a4eea5757a382343d8861c0261b0a26d562e464a1960ec79b", func := "simulacrum/simulacrumlaw16.RingTakesOnce", spec := "ringTakesOnce", unfollowed := true, recurses := true, apart := false, narrowed := true }
def RingTakesOnceUptoSaid : Prop := ringTakesOnceUptoRow.holds Try.pinned (OpenSpec.upto ringTakesOnceSpec)

/-- 'simulacrumlaw16.RingMovesAsSpecified', WHERE WHAT IT READS IS OF BULK AT MOST 1048576: true; the input reads as it did. -/
def ringMovesAsSpecifiedUptoRow : OpenClaim := { program := "ythkkhmkieknemaa", sum := "7b9dc7c497ef360a4eea5757a382343d8861c0261b0a26d562e464a1960ec79b", func := "simulacrum/simulacrumlaw16.RingMovesAsSpecified", spec := "ringMovesAsSpecified", inPlace := ["internal/abi.NoEscape"], unfollowed := true, recurses := true, apart := false, narrowed := true }
def RingMovesAsSpecifiedUptoSaid : Prop := ringMovesAsSpecifiedUptoRow.holds Try.pinned (OpenSpec.upto ringMovesAsSpecifiedSpec)

/-- 'simulacrumlaw16.RingPartsFit', WHERE WHAT IT READS IS OF BULK AT MOST 1048576: true; the input reads as it did. -/
def ringPartsFitUptoRow : OpenClaim := { program := "ythkkhmkieknemaa", sum := "7b9dc7c497ef360a4eea5757a382343d8861c0261b0a26d562e464a1960ec79b", func := "simulacrum/simulacrumlaw16.RingPartsFit", spec := "ringPartsFit", inPlace := ["internal/abi.NoEscape"], unfollowed := true, recurses := true, apart := false, narrowed := true }
def RingPartsFitUptoSaid : Prop := ringPartsFitUptoRow.holds Try.pinned (OpenSpec.upto ringPartsFitSpec)

/-- 'simulacrumlaw16.RingCarriesBytes', WHERE WHAT IT READS IS OF BULK AT MOST 1048576: true; the input reads as it did. -/
def ringCarriesBytesUptoRow : OpenClaim := { program := "ythkkhmkieknemaa", sum := "7b9dc7c497ef360a4eea5757a382343d8861c0261b0a26d562e464a1960ec79b", func := "simulacrum/simulacrumlaw16.RingCarriesBytes", spec := "ringCarriesBytes", inPlace := ["internal/abi.NoEscape"], unfollowed := true, recurses := true, apart := false, narrowed := true }
def RingCarriesBytesUptoSaid : Prop := ringCarriesBytesUptoRow.holds Try.pinned (OpenSpec.upto ringCarriesBytesSpec)

end Rows
end Go.Proofs.Ythkkhmkieknemaa
