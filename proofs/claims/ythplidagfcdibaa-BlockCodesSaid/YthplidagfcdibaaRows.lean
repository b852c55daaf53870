/-
  No cell of these rows narrows 'for every input' (looked for: loops, veiled, ifaces, maps, wideKeys, modest, calm, conditions, laid).
  DERIVED. THE GIVEN ROWS OF THIS SEAT. 6 by the template 'for every input the law returns true; each argument reads behind the call as it read before'; 0 by the template 'total and deterministic' (their statements: YthplidagfcdibaaTotals.lean).
  GIVEN WITH THE SEED: the statements are not yours to turn. If you find one false, say at which input.
  Laid BY PROGRAM, IN A SANDBOX (cutbox-rows.mjs): the forced cells as the released guide's own fill.sh prints them over the translation cb134f32319bd118… (all of the seat's roots in one cut). By AI agents, Wed Nov 11 2026. No macro, syntax, notation, axiom, sorry.
-/
import Derived.Test.YthplidagfcdibaaChecked
import GoSem.Claim
import GoSem.ClaimJoined
import GoSem.ClaimMapViews
import Derived.JoinedTies
import Derived.KernelRfl
namespace Go.Proofs.Ythplidagfcdibaa
/- THE CELL 'sum', in the pinned program and in every row, IS THE sha256 OF THE DUMP (.gsa) THAT YthplidagfcdibaaProg.lean LOADS. Nothing in Lean hashes anything: it is a label: what it is worth is what the hold of that sum in a sandbox is worth. -/
noncomputable def Try.pinned : Pinned := { name := "ythplidagfcdibaa", sum := "cb134f32319bd118a16df9046dd00e883b29bd8fc2b86a25a424467c5100c6c5", checked := Try.checked }
namespace Rows
def none {H : Type} : Left H := { results := [], args := [] }

/-- 'simulacrumlaw17.BlockPortsAsSpecified': WHATEVER THE INPUT: true; the input reads as it did. -/
def blockPortsAsSpecifiedSpec : ChangeSpec := { name := "blockPortsAsSpecified", fn := fun _ => fun
  | [d1, d2, d3, d4] => { results := [.lit (.bool true)], args := [d1, d2, d3, d4] }
  | _ => none }
def blockPortsAsSpecifiedRow : OpenClaim := { program := "ythplidagfcdibaa", sum := "cb134f32319bd118a16df9046dd00e883b29bd8fc2b86a25a424467c5100c6c5", func := "simulacrum/simulacrumlaw17.BlockPortsAsSpecified", spec := "blockPortsAsSpecified", inPlace := ["internal/abi.NoEscape"], unfollowed := true, recurses := true, apart := false }
def BlockPortsAsSpecifiedSaid : Prop := blockPortsAsSpecifiedRow.holds Try.pinned (OpenSpec.ofChange blockPortsAsSpecifiedSpec)

/-- ITS FALSE NEIGHBOUR: 'it returns false'. Refute it at one input. -/
def blockPortsAsSpecifiedWrong : ChangeSpec := { name := "blockPortsAsSpecified", fn := fun _ => fun
  | [d1, d2, d3, d4] => { results := [.lit (.bool false)], args := [d1, d2, d3, d4] }
  | _ => none }
def BlockPortsAsSpecifiedWrongFalsely : Prop := blockPortsAsSpecifiedRow.holds Try.pinned (OpenSpec.ofChange blockPortsAsSpecifiedWrong)

/-- 'simulacrumlaw17.BlockNotifiesAsSpecified': WHATEVER THE INPUT: true; the input reads as it did. -/
def blockNotifiesAsSpecifiedSpec : ChangeSpec := { name := "blockNotifiesAsSpecified", fn := fun _ => fun
  | [d1, d2, d3] => { results := [.lit (.bool true)], args := [d1, d2, d3] }
  | _ => none }
def blockNotifiesAsSpecifiedRow : OpenClaim := { program := "ythplidagfcdibaa", sum := "cb134f32319bd118a16df9046dd00e883b29bd8fc2b86a25a424467c5100c6c5", func := "simulacrum/simulacrumlaw17.BlockNotifiesAsSpecified", spec := "blockNotifiesAsSpecified", inPlace := ["internal/abi.NoEscape"], unfollowed := true, recurses := true, apart := false }
def BlockNotifiesAsSpecifiedSaid : Prop := blockNotifiesAsSpecifiedRow.holds Try.pinned (OpenSpec.ofChange blockNotifiesAsSpecifiedSpec)

/-- ITS FALSE NEIGHBOUR: 'it returns false'. Refute it at one input. -/
def blockNotifiesAsSpecifiedWrong : ChangeSpec := { name := "blockNotifiesAsSpecified", fn := fun _ => fun
  | [d1, d2, d3] => { results := [.lit (.bool false)], args := [d1, d2, d3] }
  | _ => none }
def BlockNotifiesAsSpecifiedWrongFalsely : Prop := blockNotifiesAsSpecifiedRow.holds Try.pinned (OpenSpec.ofChange blockNotifiesAsSpecifiedWrong)

/-- 'simulacrumlaw17.BlockStaysInBounds': WHATEVER THE INPUT: true; the input reads as it did. -/
def blockStaysInBoundsSpec : ChangeSpec := { name := "blockStaysInBounds", fn := fun _ => fun
  | [d1, d2, d3] => { results := [.lit (.bool true)], args := [d1, d2, d3] }
  | _ => none }
def blockStaysInBoundsRow : OpenClaim := { program := "ythplidagfcdibaa", sum := "cb134f32319bd118a16df9046dd00e883b29bd8fc2b86a25a424467c5100c6c5", func := "simulacrum/simulacrumlaw17.BlockStaysInBounds", spec := "blockStaysInBounds", inPlace := ["internal/abi.NoEscape"], unfollowed := true, recurses := true, apart := false }
def BlockStaysInBoundsSaid : Prop := blockStaysInBoundsRow.holds Try.pinned (OpenSpec.ofChange blockStaysInBoundsSpec)

/-- ITS FALSE NEIGHBOUR: 'it returns false'. Refute it at one input. -/
def blockStaysInBoundsWrong : ChangeSpec := { name := "blockStaysInBounds", fn := fun _ => fun
  | [d1, d2, d3] => { results := [.lit (.bool false)], args := [d1, d2, d3] }
  | _ => none }
def BlockStaysInBoundsWrongFalsely : Prop := blockStaysInBoundsRow.holds Try.pinned (OpenSpec.ofChange blockStaysInBoundsWrong)

/-- 'simulacrumlaw17.BlockCompletesInAnyOrder': WHATEVER THE INPUT: true; the input reads as it did. -/
def blockCompletesInAnyOrderSpec : ChangeSpec := { name := "blockCompletesInAnyOrder", fn := fun _ => fun
  | [d1, d2] => { results := [.lit (.bool true)], args := [d1, d2] }
  | _ => none }
def blockCompletesInAnyOrderRow : OpenClaim := { program := "ythplidagfcdibaa", sum := "cb134f32319bd118a16df9046dd00e883b29bd8fc2b86a25a424467c5100c6c5", func := "simulacrum/simulacrumlaw17.BlockCompletesInAnyOrder", spec := "blockCompletesInAnyOrder", inPlace := ["internal/abi.NoEscape"], unfollowed := true, recurses := true, apart := false }
def BlockCompletesInAnyOrderSaid : Prop := blockCompletesInAnyOrderRow.holds Try.pinned (OpenSpec.ofChange blockCompletesInAnyOrderSpec)

/-- ITS FALSE NEIGHBOUR: 'it returns false'. Refute it at one input. -/
def blockCompletesInAnyOrderWrong : ChangeSpec := { name := "blockCompletesInAnyOrder", fn := fun _ => fun
  | [d1, d2] => { results := [.lit (.bool false)], args := [d1, d2] }
  | _ => none }
def BlockCompletesInAnyOrderWrongFalsely : Prop := blockCompletesInAnyOrderRow.holds Try.pinned (OpenSpec.ofChange blockCompletesInAnyOrderWrong)

/-- 'simulacrumlaw17.BlockReadsWhatWasWritten': WHATEVER THE INPUT: true; the input reads as it did. -/
def blockReadsWhatWasWrittenSpec : ChangeSpec := { name := "blockReadsWhatWasWritten", fn := fun _ => fun
  | [d1, d2, d3, d4, d5] => { results := [.lit (.bool true)], args := [d1, d2, d3, d4, d5] }
  | _ => none }
def blockReadsWhatWasWrittenRow : OpenClaim := { program := "ythplidagfcdibaa", sum := "cb134f32319bd118a16df9046dd00e883b29bd8fc2b86a25a424467c5100c6c5", func := "simulacrum/simulacrumlaw17.BlockReadsWhatWasWritten", spec := "blockReadsWhatWasWritten", inPlace := ["internal/abi.NoEscape"], unfollowed := true, recurses := true, apart := false }
def BlockReadsWhatWasWrittenSaid : Prop := blockReadsWhatWasWrittenRow.holds Try.pinned (OpenSpec.ofChange blockReadsWhatWasWrittenSpec)

/-- ITS FALSE NEIGHBOUR: 'it returns false'. Refute it at one input. -/
def blockReadsWhatWasWrittenWrong : ChangeSpec := { name := "blockReadsWhatWasWritten", fn := fun _ => fun
  | [d1, d2, d3, d4, d5] => { results := [.lit (.bool false)], args := [d1, d2, d3, d4, d5] }
  | _ => none }
def BlockReadsWhatWasWrittenWrongFalsely : Prop := blockReadsWhatWasWrittenRow.holds Try.pinned (OpenSpec.ofChange blockReadsWhatWasWrittenWrong)

/-- 'simulacrumlaw17.BlockCodes': WHATEVER THE INPUT: true; the input reads as it did. -/
def blockCodesSpec : ChangeSpec := { name := "blockCodes", fn := fun _ => fun
  | [d1, d2, d3] => { results := [.lit (.bool true)], args := [d1, d2, d3] }
  | _ => none }
def blockCodesRow : OpenClaim := { program := "ythplidagfcdibaa", sum := "cb134f32319bd118a16df9046dd00e883b29bd8fc2b86a25a424467c5100c6c5", func := "simulacrum/simulacrumlaw17.BlockCodes", spec := "blockCodes", inPlace := ["internal/abi.NoEscape"], unfollowed := true, recurses := true, apart := false }
def BlockCodesSaid : Prop := blockCodesRow.holds Try.pinned (OpenSpec.ofChange blockCodesSpec)

/-- ITS FALSE NEIGHBOUR: 'it returns false'. Refute it at one input. -/
def blockCodesWrong : ChangeSpec := { name := "blockCodes", fn := fun _ => fun
  | [d1, d2, d3] => { results := [.lit (.bool false)], args := [d1, d2, d3] }
  | _ => none }
def BlockCodesWrongFalsely : Prop := blockCodesRow.holds Try.pinned (OpenSpec.ofChange blockCodesWrong)

/- THE SECOND FORM. 'bulk': how many values and letters a reading holds, each counted each time it is reached (what is shared counts as often as it is met; a slice's spare places count too). A statement '..UptoSaid' is the law's where the arguments, and the package variables that the reading takes, are together of bulk at most 1048576: NARROWER than '..Said'. Prove '..Said' where nothing that the law and all that it calls make is longer than what came in: it says more and counts as full. Else prove '..UptoSaid'. A law counts once. -/
mutual
def uptoBulk {H : Type} : DataW H → Nat
  | .lit (.string bytes) => bytes.length + 1
  | .lit _ => 1
  | .nil => 1
  | .ptr d => uptoBulk d + 1
  | .slice elems spare => uptoBulkAll elems + uptoBulkAll spare + 1
  | .agg parts => uptoBulkAll parts + 1
  | .iface _ d => uptoBulk d + 1
  | .map entries => uptoBulkEntries entries + 1
  | .held _ => 1
def uptoBulkAll {H : Type} : List (DataW H) → Nat
  | [] => 0
  | d :: r => uptoBulk d + uptoBulkAll r
def uptoBulkEntries {H : Type} : List (Lit × DataW H) → Nat
  | [] => 0
  | x :: r => uptoBulkEntry x + uptoBulkEntries r
def uptoBulkEntry {H : Type} : Lit × DataW H → Nat
  | (.string bytes, d) => bytes.length + uptoBulk d + 1
  | (_, d) => uptoBulk d + 1
 end
def uptoSmall : (H : Type) → List (DataW H) → Bool := fun _ ds => decide (uptoBulkAll ds ≤ 1048576)
def OpenSpec.upto (s : _root_.Go.ChangeSpec) : _root_.Go.OpenSpec := { _root_.Go.OpenSpec.ofChange s with cond := some uptoSmall }

/-- 'simulacrumlaw17.BlockPortsAsSpecified', WHERE WHAT IT READS IS OF BULK AT MOST 1048576: true; the input reads as it did. -/
def blockPortsAsSpecifiedUptoRow : OpenClaim := { program := "ythplidagfcdibaa", sum := "cb134f32319bd118a16df9046dd00e883b29bd8fc2b86a25a424467c5100c6c5", func := "simulacrum/simulacrumlaw17.BlockPortsAsSpecified", spec := "blockPortsAsSpecified", inPlace := ["internal/abi.NoEscape"], unfollowed := true, recurses := true, apart := false, narrowed := true }
def BlockPortsAsSpecifiedUptoSaid : Prop := blockPortsAsSpecifiedUptoRow.holds Try.pinned (OpenSpec.upto blockPortsAsSpecifiedSpec)

/-- 'simulacrumlaw17.BlockNotifiesAsSpecified', WHERE WHAT IT READS IS OF BULK AT MOST 1048576: true; the input reads as it did. -/
def blockNotifiesAsSpecifiedUptoRow : OpenClaim := { program := "ythplidagfcdibaa", sum := "cb134f32319bd118a16df9046dd00e883b29bd8fc2b86a25a424467c5100c6c5", func := "simulacrum/simulacrumlaw17.BlockNotifiesAsSpecified", spec := "blockNotifiesAsSpecified", inPlace := ["internal/abi.NoEscape"], unfollowed := true, recurses := true, apart := false, narrowed := true }
def BlockNotifiesAsSpecifiedUptoSaid : Prop := blockNotifiesAsSpecifiedUptoRow.holds Try.pinned (OpenSpec.upto blockNotifiesAsSpecifiedSpec)

/-- 'simulacrumlaw17.BlockStaysInBounds', WHERE WHAT IT READS IS OF BULK AT MOST 1048576: true; the input reads as it did. -/
def blockStaysInBoundsUptoRow : OpenClaim := { program := "ythplidagfcdibaa", sum := "cb134f32319bd118a16df9046dd00e883b29bd8fc2b86a25a424467c5100c6c5", func := "simulacrum/simulacrumlaw17.BlockStaysInBounds", spec := "blockStaysInBounds", inPlace := ["internal/abi.NoEscape"], unfollowed := true, recurses := true, apart := false, narrowed := true }
def BlockStaysInBoundsUptoSaid : Prop := blockStaysInBoundsUptoRow.holds Try.pinned (OpenSpec.upto blockStaysInBoundsSpec)

/-- 'simulacrumlaw17.BlockCompletesInAnyOrder', WHERE WHAT IT READS IS OF BULK AT MOST 1048576: true; the input reads as it did. -/
def blockCompletesInAnyOrderUptoRow : OpenClaim := { program := "ythplidagfcdibaa", sum := "cb134f32319bd118a16df9046dd00e883b29bd8fc2b86a25a424467c5100c6c5", func := "simulacrum/simulacrumlaw17.BlockCompletesInAnyOrder", spec := "blockCompletesInAnyOrder", inPlace := ["internal/abi.NoEscape"], unfollowed := true, recurses := true, apart := false, narrowed := true }
def BlockCompletesInAnyOrderUptoSaid : Prop := blockCompletesInAnyOrderUptoRow.holds Try.pinned (OpenSpec.upto blockCompletesInAnyOrderSpec)

/-- 'simulacrumlaw17.BlockReadsWhatWasWritten', WHERE WHAT IT READS IS OF BULK AT MOST 1048576: true; the input reads as it did. -/
def blockReadsWhatWasWrittenUptoRow : OpenClaim := { program := "ythplidagfcdibaa", sum := "cb134f32319bd118a16df9046dd00e883b29bd8fc2b86a25a424467c5100c6c5", func := "simulacrum/simulacrumlaw17.BlockReadsWhatWasWritten", spec := "blockReadsWhatWasWritten", inPlace := ["internal/abi.NoEscape"], unfollowed := true, recurses := true, apart := false, narrowed := true }
def BlockReadsWhatWasWrittenUptoSaid : Prop := blockReadsWhatWasWrittenUptoRow.holds Try.pinned (OpenSpec.upto blockReadsWhatWasWrittenSpec)

/-- 'simulacrumlaw17.BlockCodes', WHERE WHAT IT READS IS OF BULK AT MOST 1048576: true; the input reads as it did. -/
def blockCodesUptoRow : OpenClaim := { program := "ythplidagfcdibaa", sum := "cb134f32319bd118a16df9046dd00e883b29bd8fc2b86a25a424467c5100c6c5", func := "simulacrum/simulacrumlaw17.BlockCodes", spec := "blockCodes", inPlace := ["internal/abi.NoEscape"], unfollowed := true, recurses := true, apart := false, narrowed := true }
def BlockCodesUptoSaid : Prop := blockCodesUptoRow.holds Try.pinned (OpenSpec.upto blockCodesSpec)

end Rows
end Go.Proofs.Ythplidagfcdibaa
