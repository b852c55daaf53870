/-
  No cell of these rows narrows 'for every input' (looked for: loops, veiled, ifaces, maps, wideKeys, modest, calm, conditions, laid).
  DERIVED. THE GIVEN ROWS OF THIS SEAT. 6 by the template 'for every input the law returns true; each argument reads behind the call as it read before'; 0 by the template 'total and deterministic' (their statements: YtepcejdglbcbkaaGreatTotals.lean).
  GIVEN WITH THE SEED: the statements are not yours to turn. If you find one false, say at which input.
  Laid BY PROGRAM, IN A SANDBOX (cutbox-rows.mjs): the forced cells as the released guide's own fill.sh prints them over the translation 71fcaaf8c8c3c487… (all of the seat's roots in one cut). By AI agents, Wed Nov 11 2026. No macro, syntax, notation, axiom, sorry.
-/
import Derived.Test.YtepcejdglbcbkaaGreatChecked
import GoSem.Claim
import GoSem.ClaimJoined
import GoSem.ClaimMapViews
import Derived.JoinedTies
import Derived.KernelRfl
namespace Go.Proofs.YtepcejdglbcbkaaGreat
/- THE CELL 'sum', in the pinned program and in every row, IS THE sha256 OF THE DUMP (.gsa) THAT YtepcejdglbcbkaaGreatProg.lean LOADS. Nothing in Lean hashes anything: it is a label: what it is worth is what the hold of that sum in a sandbox is worth. -/
noncomputable def Tryz.pinned : Pinned := { name := "ytepcejdglbcbkaagreat", sum := "71fcaaf8c8c3c487cf0689c96895d8fca564b0bf9d5fd6c4aff06da268ef0e51", checked := Tryz.checked }
namespace Rows
def none {H : Type} : Left H := { results := [], args := [] }

/-- 'simulacrumlaw19.BoardServesAsSpecified': WHATEVER THE INPUT: true; the input reads as it did. -/
def boardServesAsSpecifiedSpec : ChangeSpec := { name := "boardServesAsSpecified", fn := fun _ => fun
  | [d1, d2, d3, d4, d5] => { results := [.lit (.bool true)], args := [d1, d2, d3, d4, d5] }
  | _ => none }
def boardServesAsSpecifiedRow : OpenClaim := { program := "ytepcejdglbcbkaagreat", sum := "71fcaaf8c8c3c487cf0689c96895d8fca564b0bf9d5fd6c4aff06da268ef0e51", func := "simulacrum/simulacrumlaw19.BoardServesAsSpecified", spec := "boardServesAsSpecified", inPlace := ["internal/abi.NoEscape"], unfollowed := true, recurses := true, apart := false }
def BoardServesAsSpecifiedSaid : Prop := boardServesAsSpecifiedRow.holds Tryz.pinned (OpenSpec.ofChange boardServesAsSpecifiedSpec)

/-- ITS FALSE NEIGHBOUR: 'it returns false'. Refute it at one input. -/
def boardServesAsSpecifiedWrong : ChangeSpec := { name := "boardServesAsSpecified", fn := fun _ => fun
  | [d1, d2, d3, d4, d5] => { results := [.lit (.bool false)], args := [d1, d2, d3, d4, d5] }
  | _ => none }
def BoardServesAsSpecifiedWrongFalsely : Prop := boardServesAsSpecifiedRow.holds Tryz.pinned (OpenSpec.ofChange boardServesAsSpecifiedWrong)

/-- 'simulacrumlaw19.BoardTakesAsSpecified': WHATEVER THE INPUT: true; the input reads as it did. -/
def boardTakesAsSpecifiedSpec : ChangeSpec := { name := "boardTakesAsSpecified", fn := fun _ => fun
  | [d1, d2, d3, d4, d5] => { results := [.lit (.bool true)], args := [d1, d2, d3, d4, d5] }
  | _ => none }
def boardTakesAsSpecifiedRow : OpenClaim := { program := "ytepcejdglbcbkaagreat", sum := "71fcaaf8c8c3c487cf0689c96895d8fca564b0bf9d5fd6c4aff06da268ef0e51", func := "simulacrum/simulacrumlaw19.BoardTakesAsSpecified", spec := "boardTakesAsSpecified", inPlace := ["internal/abi.NoEscape"], unfollowed := true, recurses := true, apart := false }
def BoardTakesAsSpecifiedSaid : Prop := boardTakesAsSpecifiedRow.holds Tryz.pinned (OpenSpec.ofChange boardTakesAsSpecifiedSpec)

/-- ITS FALSE NEIGHBOUR: 'it returns false'. Refute it at one input. -/
def boardTakesAsSpecifiedWrong : ChangeSpec := { name := "boardTakesAsSpecified", fn := fun _ => fun
  | [d1, d2, d3, d4, d5] => { results := [.lit (.bool false)], args := [d1, d2, d3, d4, d5] }
  | _ => none }
def BoardTakesAsSpecifiedWrongFalsely : Prop := boardTakesAsSpecifiedRow.holds Tryz.pinned (OpenSpec.ofChange boardTakesAsSpecifiedWrong)

/-- 'simulacrumlaw19.BoardReadsAsSpecified': WHATEVER THE INPUT: true; the input reads as it did. -/
def boardReadsAsSpecifiedSpec : ChangeSpec := { name := "boardReadsAsSpecified", fn := fun _ => fun
  | [d1, d2, d3] => { results := [.lit (.bool true)], args := [d1, d2, d3] }
  | _ => none }
def boardReadsAsSpecifiedRow : OpenClaim := { program := "ytepcejdglbcbkaagreat", sum := "71fcaaf8c8c3c487cf0689c96895d8fca564b0bf9d5fd6c4aff06da268ef0e51", func := "simulacrum/simulacrumlaw19.BoardReadsAsSpecified", spec := "boardReadsAsSpecified", inPlace := ["internal/abi.NoEscape"], unfollowed := true, recurses := true, apart := false }
def BoardReadsAsSpecifiedSaid : Prop := boardReadsAsSpecifiedRow.holds Tryz.pinned (OpenSpec.ofChange boardReadsAsSpecifiedSpec)

/-- ITS FALSE NEIGHBOUR: 'it returns false'. Refute it at one input. -/
def boardReadsAsSpecifiedWrong : ChangeSpec := { name := "boardReadsAsSpecified", fn := fun _ => fun
  | [d1, d2, d3] => { results := [.lit (.bool false)], args := [d1, d2, d3] }
  | _ => none }
def BoardReadsAsSpecifiedWrongFalsely : Prop := boardReadsAsSpecifiedRow.holds Tryz.pinned (OpenSpec.ofChange boardReadsAsSpecifiedWrong)

/-- 'simulacrumlaw19.BoardStaysValid': WHATEVER THE INPUT: true; the input reads as it did. -/
def boardStaysValidSpec : ChangeSpec := { name := "boardStaysValid", fn := fun _ => fun
  | [d1, d2, d3] => { results := [.lit (.bool true)], args := [d1, d2, d3] }
  | _ => none }
def boardStaysValidRow : OpenClaim := { program := "ytepcejdglbcbkaagreat", sum := "71fcaaf8c8c3c487cf0689c96895d8fca564b0bf9d5fd6c4aff06da268ef0e51", func := "simulacrum/simulacrumlaw19.BoardStaysValid", spec := "boardStaysValid", inPlace := ["internal/abi.NoEscape"], unfollowed := true, recurses := true, apart := false }
def BoardStaysValidSaid : Prop := boardStaysValidRow.holds Tryz.pinned (OpenSpec.ofChange boardStaysValidSpec)

/-- ITS FALSE NEIGHBOUR: 'it returns false'. Refute it at one input. -/
def boardStaysValidWrong : ChangeSpec := { name := "boardStaysValid", fn := fun _ => fun
  | [d1, d2, d3] => { results := [.lit (.bool false)], args := [d1, d2, d3] }
  | _ => none }
def BoardStaysValidWrongFalsely : Prop := boardStaysValidRow.holds Tryz.pinned (OpenSpec.ofChange boardStaysValidWrong)

/-- 'simulacrumlaw19.BoardKeepsDevicesApart': WHATEVER THE INPUT: true; the input reads as it did. -/
def boardKeepsDevicesApartSpec : ChangeSpec := { name := "boardKeepsDevicesApart", fn := fun _ => fun
  | [d1, d2, d3, d4, d5] => { results := [.lit (.bool true)], args := [d1, d2, d3, d4, d5] }
  | _ => none }
def boardKeepsDevicesApartRow : OpenClaim := { program := "ytepcejdglbcbkaagreat", sum := "71fcaaf8c8c3c487cf0689c96895d8fca564b0bf9d5fd6c4aff06da268ef0e51", func := "simulacrum/simulacrumlaw19.BoardKeepsDevicesApart", spec := "boardKeepsDevicesApart", inPlace := ["internal/abi.NoEscape"], unfollowed := true, recurses := true, apart := false }
def BoardKeepsDevicesApartSaid : Prop := boardKeepsDevicesApartRow.holds Tryz.pinned (OpenSpec.ofChange boardKeepsDevicesApartSpec)

/-- ITS FALSE NEIGHBOUR: 'it returns false'. Refute it at one input. -/
def boardKeepsDevicesApartWrong : ChangeSpec := { name := "boardKeepsDevicesApart", fn := fun _ => fun
  | [d1, d2, d3, d4, d5] => { results := [.lit (.bool false)], args := [d1, d2, d3, d4, d5] }
  | _ => none }
def BoardKeepsDevicesApartWrongFalsely : Prop := boardKeepsDevicesApartRow.holds Tryz.pinned (OpenSpec.ofChange boardKeepsDevicesApartWrong)

/-- 'simulacrumlaw19.BoardIsDetermined': WHATEVER THE INPUT: true; the input reads as it did. -/
def boardIsDeterminedSpec : ChangeSpec := { name := "boardIsDetermined", fn := fun _ => fun
  | [d1, d2, d3] => { results := [.lit (.bool true)], args := [d1, d2, d3] }
  | _ => none }
def boardIsDeterminedRow : OpenClaim := { program := "ytepcejdglbcbkaagreat", sum := "71fcaaf8c8c3c487cf0689c96895d8fca564b0bf9d5fd6c4aff06da268ef0e51", func := "simulacrum/simulacrumlaw19.BoardIsDetermined", spec := "boardIsDetermined", inPlace := ["internal/abi.NoEscape"], unfollowed := true, recurses := true, apart := false }
def BoardIsDeterminedSaid : Prop := boardIsDeterminedRow.holds Tryz.pinned (OpenSpec.ofChange boardIsDeterminedSpec)

/-- ITS FALSE NEIGHBOUR: 'it returns false'. Refute it at one input. -/
def boardIsDeterminedWrong : ChangeSpec := { name := "boardIsDetermined", fn := fun _ => fun
  | [d1, d2, d3] => { results := [.lit (.bool false)], args := [d1, d2, d3] }
  | _ => none }
def BoardIsDeterminedWrongFalsely : Prop := boardIsDeterminedRow.holds Tryz.pinned (OpenSpec.ofChange boardIsDeterminedWrong)

/- THE SECOND FORM. 'bulk': how many values and letters a reading holds, each counted each time it is reached (what is shared counts as often as it is met; a slice's spare places count too). A statement '..UptoSaid' is the law's where the arguments, and the package variables that the reading takes, are together of bulk at most 1048576: NARROWER than '..Said'. Prove '..Said' where nothing that the law and all that it calls make is longer than what came in: it says more and counts as full. Else prove '..UptoSaid'. A law counts once. -/
mutual
def uptoBulk {H : Type} : DataW H → Nat
  | .lit (.string bytes) => bytes.length + 1
  | .lit _ => 1
  | .nil => 1
  | .ptr d => uptoBulk d + 1
  | .slice elems spare => uptoBulkAll elems + uptoBulkAll spare + 1
  | .agg parts => uptoBulkAll parts + 1
  | .iface _ d => uptoBulk d + 1
  | .map entries => uptoBulkEntries entries + 1
  | .held _ => 1
def uptoBulkAll {H : Type} : List (DataW H) → Nat
  | [] => 0
  | d :: r => uptoBulk d + uptoBulkAll r
def uptoBulkEntries {H : Type} : List (Lit × DataW H) → Nat
  | [] => 0
  | x :: r => uptoBulkEntry x + uptoBulkEntries r
def uptoBulkEntry {H : Type} : Lit × DataW H → Nat
  | (.string bytes, d) => bytes.length + uptoBulk d + 1
  | (_, d) => uptoBulk d + 1
 end
def uptoSmall : (H : Type) → List (DataW H) → Bool := fun _ ds => decide (uptoBulkAll ds ≤ 1048576)
def OpenSpec.upto (s : _root_.Go.ChangeSpec) : _root_.Go.OpenSpec := { _root_.Go.OpenSpec.ofChange s with cond := some uptoSmall }

/-- 'simulacrumlaw19.BoardServesAsSpecified', WHERE WHAT IT READS IS OF BULK AT MOST 1048576: true; the input reads as it did. -/
def boardServesAsSpecifiedUptoRow : OpenClaim := { program := "ytepcejdglbcbkaagreat", sum := "71fcaaf8c8c3c487cf0689c96895d8fca564b0bf9d5fd6c4aff06da268ef0e51", func := "simulacrum/simulacrumlaw19.BoardServesAsSpecified", spec := "boardServesAsSpecified", inPlace := ["internal/abi.NoEscape"], unfollowed := true, recurses := true, apart := false, narrowed := true }
def BoardServesAsSpecifiedUptoSaid : Prop := boardServesAsSpecifiedUptoRow.holds Tryz.pinned (OpenSpec.upto boardServesAsSpecifiedSpec)

/-- 'simulacrumlaw19.BoardTakesAsSpecified', WHERE WHAT IT READS IS OF BULK AT MOST 1048576: true; the input reads as it did. -/
def boardTakesAsSpecifiedUptoRow : OpenClaim := { program := "ytepcejdglbcbkaagreat", sum := "71fcaaf8c8c3c487cf0689c96895d8fca564b0bf9d5fd6c4aff06da268ef0e51", func := "simulacrum/simulacrumlaw19.BoardTakesAsSpecified", spec := "boardTakesAsSpecified", inPlace := ["internal/abi.NoEscape"], unfollowed := true, recurses := true, apart := false, narrowed := true }
def BoardTakesAsSpecifiedUptoSaid : Prop := boardTakesAsSpecifiedUptoRow.holds Tryz.pinned (OpenSpec.upto boardTakesAsSpecifiedSpec)

/-- 'simulacrumlaw19.BoardReadsAsSpecified', WHERE WHAT IT READS IS OF BULK AT MOST 1048576: true; the input reads as it did. -/
def boardReadsAsSpecifiedUptoRow : OpenClaim := { program := "ytepcejdglbcbkaagreat", sum := "71fcaaf8c8c3c487cf0689c96895d8fca564b0bf9d5fd6c4aff06da268ef0e51", func := "simulacrum/simulacrumlaw19.BoardReadsAsSpecified", spec := "boardReadsAsSpecified", inPlace := ["internal/abi.NoEscape"], unfollowed := true, recurses := true, apart := false, narrowed := true }
def BoardReadsAsSpecifiedUptoSaid : Prop := boardReadsAsSpecifiedUptoRow.holds Tryz.pinned (OpenSpec.upto boardReadsAsSpecifiedSpec)

/-- 'simulacrumlaw19.BoardStaysValid', WHERE WHAT IT READS IS OF BULK AT MOST 1048576: true; the input reads as it did. -/
def boardStaysValidUptoRow : OpenClaim := { program := "ytepcejdglbcbkaagreat", sum := "71fcaaf8c8c3c487cf0689c96895d8fca564b0bf9d5fd6c4aff06da268ef0e51", func := "simulacrum/simulacrumlaw19.BoardStaysValid", spec := "boardStaysValid", inPlace := ["internal/abi.NoEscape"], unfollowed := true, recurses := true, apart := false, narrowed := true }
def BoardStaysValidUptoSaid : Prop := boardStaysValidUptoRow.holds Tryz.pinned (OpenSpec.upto boardStaysValidSpec)

/-- 'simulacrumlaw19.BoardKeepsDevicesApart', WHERE WHAT IT READS IS OF BULK AT MOST 1048576: true; the input reads as it did. -/
def boardKeepsDevicesApartUptoRow : OpenClaim := { program := "ytepcejdglbcbkaagreat", sum := "71fcaaf8c8c3c487cf0689c96895d8fca564b0bf9d5fd6c4aff06da268ef0e51", func := "simulacrum/simulacrumlaw19.BoardKeepsDevicesApart", spec := "boardKeepsDevicesApart", inPlace := ["internal/abi.NoEscape"], unfollowed := true, recurses := true, apart := false, narrowed := true }
def BoardKeepsDevicesApartUptoSaid : Prop := boardKeepsDevicesApartUptoRow.holds Tryz.pinned (OpenSpec.upto boardKeepsDevicesApartSpec)

/-- 'simulacrumlaw19.BoardIsDetermined', WHERE WHAT IT READS IS OF BULK AT MOST 1048576: true; the input reads as it did. -/
def boardIsDeterminedUptoRow : OpenClaim := { program := "ytepcejdglbcbkaagreat", sum := "71fcaaf8c8c3c487cf0689c96895d8fca564b0bf9d5fd6c4aff06da268ef0e51", func := "simulacrum/simulacrumlaw19.BoardIsDetermined", spec := "boardIsDetermined", inPlace := ["internal/abi.NoEscape"], unfollowed := true, recurses := true, apart := false, narrowed := true }
def BoardIsDeterminedUptoSaid : Prop := boardIsDeterminedUptoRow.holds Tryz.pinned (OpenSpec.upto boardIsDeterminedSpec)

end Rows
end Go.Proofs.YtepcejdglbcbkaaGreat
