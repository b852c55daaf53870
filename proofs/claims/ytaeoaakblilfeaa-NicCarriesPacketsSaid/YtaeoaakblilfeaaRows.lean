/-
  No cell of these rows narrows 'for every input' (looked for: loops, veiled, ifaces, maps, wideKeys, modest, calm, conditions, laid).
  DERIVED. THE GIVEN ROWS OF THIS SEAT. 5 by the template 'for every input the law returns true; each argument reads behind the call as it read before'; 0 by the template 'total and deterministic' (their statements: YtaeoaakblilfeaaTotals.lean).
  GIVEN WITH THE SEED: the statements are not yours to turn. If you find one false, say at which input.
  Laid BY PROGRAM, IN A SANDBOX (cutbox-rows.mjs): the forced cells as the released guide's own fill.sh prints them over the translation 95cf1fba33b9b8e2… (all of the seat's roots in one cut). By AI agents, Wed Nov 11 2026. No macro, syntax, notation, axiom, sorry.
-/
import Derived.Test.YtaeoaakblilfeaaChecked
import GoSem.Claim
import GoSem.ClaimJoined
import GoSem.ClaimMapViews
import Derived.JoinedTies
import Derived.KernelRfl
namespace Go.Proofs.Ytaeoaakblilfeaa
/- THE CELL 'sum', in the pinned program and in every row, IS THE sha256 OF THE DUMP (.gsa) THAT YtaeoaakblilfeaaProg.lean LOADS. Nothing in Lean hashes anything: it is a label: what it is worth is what the hold of that sum in a sandbox is worth. -/
noncomputable def Try.pinned : Pinned := { name := "ytaeoaakblilfeaa", sum := "95cf1fba33b9b8e2db9a1f0b944dcfc2b13752e6a423dcb07610554cb604af9d", checked := Try.checked }
namespace Rows
def none {H : Type} : Left H := { results := [], args := [] }

/-- 'simulacrumlaw18.NicWorksAsSpecified': WHATEVER THE INPUT: true; the input reads as it did. -/
def nicWorksAsSpecifiedSpec : ChangeSpec := { name := "nicWorksAsSpecified", fn := fun _ => fun
  | [d1, d2, d3, d4] => { results := [.lit (.bool true)], args := [d1, d2, d3, d4] }
  | _ => none }
def nicWorksAsSpecifiedRow : OpenClaim := { program := "ytaeoaakblilfeaa", sum := "95cf1fba33b9b8e2db9a1f0b944dcfc2b13752e6a423dcb07610554cb604af9d", func := "simulacrum/simulacrumlaw18.NicWorksAsSpecified", spec := "nicWorksAsSpecified", inPlace := ["internal/abi.NoEscape"], unfollowed := true, recurses := true, apart := false }
def NicWorksAsSpecifiedSaid : Prop := nicWorksAsSpecifiedRow.holds Try.pinned (OpenSpec.ofChange nicWorksAsSpecifiedSpec)

/-- ITS FALSE NEIGHBOUR: 'it returns false'. Refute it at one input. -/
def nicWorksAsSpecifiedWrong : ChangeSpec := { name := "nicWorksAsSpecified", fn := fun _ => fun
  | [d1, d2, d3, d4] => { results := [.lit (.bool false)], args := [d1, d2, d3, d4] }
  | _ => none }
def NicWorksAsSpecifiedWrongFalsely : Prop := nicWorksAsSpecifiedRow.holds Try.pinned (OpenSpec.ofChange nicWorksAsSpecifiedWrong)

/-- 'simulacrumlaw18.NicReadsBack': WHATEVER THE INPUT: true; the input reads as it did. -/
def nicReadsBackSpec : ChangeSpec := { name := "nicReadsBack", fn := fun _ => fun
  | [d1, d2] => { results := [.lit (.bool true)], args := [d1, d2] }
  | _ => none }
def nicReadsBackRow : OpenClaim := { program := "ytaeoaakblilfeaa", sum := "95cf1fba33b9b8e2db9a1f0b944dcfc2b13752e6a423dcb07610554cb604af9d", func := "simulacrum/simulacrumlaw18.NicReadsBack", spec := "nicReadsBack", inPlace := ["internal/abi.NoEscape"], unfollowed := true, recurses := true, apart := false }
def NicReadsBackSaid : Prop := nicReadsBackRow.holds Try.pinned (OpenSpec.ofChange nicReadsBackSpec)

/-- ITS FALSE NEIGHBOUR: 'it returns false'. Refute it at one input. -/
def nicReadsBackWrong : ChangeSpec := { name := "nicReadsBack", fn := fun _ => fun
  | [d1, d2] => { results := [.lit (.bool false)], args := [d1, d2] }
  | _ => none }
def NicReadsBackWrongFalsely : Prop := nicReadsBackRow.holds Try.pinned (OpenSpec.ofChange nicReadsBackWrong)

/-- 'simulacrumlaw18.NicWritesWhereItMay': WHATEVER THE INPUT: true; the input reads as it did. -/
def nicWritesWhereItMaySpec : ChangeSpec := { name := "nicWritesWhereItMay", fn := fun _ => fun
  | [d1, d2, d3, d4] => { results := [.lit (.bool true)], args := [d1, d2, d3, d4] }
  | _ => none }
def nicWritesWhereItMayRow : OpenClaim := { program := "ytaeoaakblilfeaa", sum := "95cf1fba33b9b8e2db9a1f0b944dcfc2b13752e6a423dcb07610554cb604af9d", func := "simulacrum/simulacrumlaw18.NicWritesWhereItMay", spec := "nicWritesWhereItMay", inPlace := ["internal/abi.NoEscape"], unfollowed := true, recurses := true, apart := false }
def NicWritesWhereItMaySaid : Prop := nicWritesWhereItMayRow.holds Try.pinned (OpenSpec.ofChange nicWritesWhereItMaySpec)

/-- ITS FALSE NEIGHBOUR: 'it returns false'. Refute it at one input. -/
def nicWritesWhereItMayWrong : ChangeSpec := { name := "nicWritesWhereItMay", fn := fun _ => fun
  | [d1, d2, d3, d4] => { results := [.lit (.bool false)], args := [d1, d2, d3, d4] }
  | _ => none }
def NicWritesWhereItMayWrongFalsely : Prop := nicWritesWhereItMayRow.holds Try.pinned (OpenSpec.ofChange nicWritesWhereItMayWrong)

/-- 'simulacrumlaw18.NicCarriesPackets': WHATEVER THE INPUT: true; the input reads as it did. -/
def nicCarriesPacketsSpec : ChangeSpec := { name := "nicCarriesPackets", fn := fun _ => fun
  | [d1, d2, d3, d4] => { results := [.lit (.bool true)], args := [d1, d2, d3, d4] }
  | _ => none }
def nicCarriesPacketsRow : OpenClaim := { program := "ytaeoaakblilfeaa", sum := "95cf1fba33b9b8e2db9a1f0b944dcfc2b13752e6a423dcb07610554cb604af9d", func := "simulacrum/simulacrumlaw18.NicCarriesPackets", spec := "nicCarriesPackets", inPlace := ["internal/abi.NoEscape"], unfollowed := true, recurses := true, apart := false }
def NicCarriesPacketsSaid : Prop := nicCarriesPacketsRow.holds Try.pinned (OpenSpec.ofChange nicCarriesPacketsSpec)

/-- ITS FALSE NEIGHBOUR: 'it returns false'. Refute it at one input. -/
def nicCarriesPacketsWrong : ChangeSpec := { name := "nicCarriesPackets", fn := fun _ => fun
  | [d1, d2, d3, d4] => { results := [.lit (.bool false)], args := [d1, d2, d3, d4] }
  | _ => none }
def NicCarriesPacketsWrongFalsely : Prop := nicCarriesPacketsRow.holds Try.pinned (OpenSpec.ofChange nicCarriesPacketsWrong)

/-- 'simulacrumlaw18.NicCountsPackets': WHATEVER THE INPUT: true; the input reads as it did. -/
def nicCountsPacketsSpec : ChangeSpec := { name := "nicCountsPackets", fn := fun _ => fun
  | [d1, d2, d3] => { results := [.lit (.bool true)], args := [d1, d2, d3] }
  | _ => none }
def nicCountsPacketsRow : OpenClaim := { program := "ytaeoaakblilfeaa", sum := "95cf1fba33b9b8e2db9a1f0b944dcfc2b13752e6a423dcb07610554cb604af9d", func := "simulacrum/simulacrumlaw18.NicCountsPackets", spec := "nicCountsPackets", inPlace := ["internal/abi.NoEscape"], unfollowed := true, recurses := true, apart := false }
def NicCountsPacketsSaid : Prop := nicCountsPacketsRow.holds Try.pinned (OpenSpec.ofChange nicCountsPacketsSpec)

/-- ITS FALSE NEIGHBOUR: 'it returns false'. Refute it at one input. -/
def nicCountsPacketsWrong : ChangeSpec := { name := "nicCountsPackets", fn := fun _ => fun
  | [d1, d2, d3] => { results := [.lit (.bool false)], args := [d1, d2, d3] }
  | _ => none }
def NicCountsPacketsWrongFalsely : Prop := nicCountsPacketsRow.holds Try.pinned (OpenSpec.ofChange nicCountsPacketsWrong)

/- THE SECOND FORM. 'bulk': how many values and letters a reading holds, each counted each time it is reached (what is shared counts as often as it is met; a slice's spare places count too). A statement '..UptoSaid' is the law's where the arguments, and the package variables that the reading takes, are together of bulk at most 1048576: NARROWER than '..Said'. Prove '..Said' where nothing that the law and all that it calls make is longer than what came in: it says more and counts as full. Else prove '..UptoSaid'. A law counts once. -/
mutual
def uptoBulk {H : Type} : DataW H → Nat
  | .lit (.string bytes) => bytes.length + 1
  | .lit _ => 1
  | .nil => 1
  | .ptr d => uptoBulk d + 1
  | .slice elems spare => uptoBulkAll elems + uptoBulkAll spare + 1
  | .agg parts => uptoBulkAll parts + 1
  | .iface _ d => uptoBulk d + 1
  | .map entries => uptoBulkEntries entries + 1
  | .held _ => 1
def uptoBulkAll {H : Type} : List (DataW H) → Nat
  | [] => 0
  | d :: r => uptoBulk d + uptoBulkAll r
def uptoBulkEntries {H : Type} : List (Lit × DataW H) → Nat
  | [] => 0
  | x :: r => uptoBulkEntry x + uptoBulkEntries r
def uptoBulkEntry {H : Type} : Lit × DataW H → Nat
  | (.string bytes, d) => bytes.length + uptoBulk d + 1
  | (_, d) => uptoBulk d + 1
 end
def uptoSmall : (H : Type) → List (DataW H) → Bool := fun _ ds => decide (uptoBulkAll ds ≤ 1048576)
def OpenSpec.upto (s : _root_.Go.ChangeSpec) : _root_.Go.OpenSpec := { _root_.Go.OpenSpec.ofChange s with cond := some uptoSmall }

/-- 'simulacrumlaw18.NicWorksAsSpecified', WHERE WHAT IT READS IS OF BULK AT MOST 1048576: true; the input reads as it did. -/
def nicWorksAsSpecifiedUptoRow : OpenClaim := { program := "ytaeoaakblilfeaa", sum := "95cf1fba33b9b8e2db9a1f0b944dcfc2b13752e6a423dcb07610554cb604af9d", func := "simulacrum/simulacrumlaw18.NicWorksAsSpecified", spec := "nicWorksAsSpecified", inPlace := ["internal/abi.NoEscape"], unfollowed := true, recurses := true, apart := false, narrowed := true }
def NicWorksAsSpecifiedUptoSaid : Prop := nicWorksAsSpecifiedUptoRow.holds Try.pinned (OpenSpec.upto nicWorksAsSpecifiedSpec)

/-- 'simulacrumlaw18.NicReadsBack', WHERE WHAT IT READS IS OF BULK AT MOST 1048576: true; the input reads as it did. -/
def nicReadsBackUptoRow : OpenClaim := { program := "ytaeoaakblilfeaa", sum := "95cf1fba33b9b8e2db9a1f0b944dcfc2b13752e6a423dcb07610554cb604af9d", func := "simulacrum/simulacrumlaw18.NicReadsBack", spec := "nicReadsBack", inPlace := ["internal/abi.NoEscape"], unfollowed := true, recurses := true, apart := false, narrowed := true }
def NicReadsBackUptoSaid : Prop := nicReadsBackUptoRow.holds Try.pinned (OpenSpec.upto nicReadsBackSpec)

/-- 'simulacrumlaw18.NicWritesWhereItMay', WHERE WHAT IT READS IS OF BULK AT MOST 1048576: true; the input reads as it did. -/
def nicWritesWhereItMayUptoRow : OpenClaim := { program := "ytaeoaakblilfeaa", sum := "95cf1fba33b9b8e2db9a1f0b944dcfc2b13752e6a423dcb07610554cb604af9d", func := "simulacrum/simulacrumlaw18.NicWritesWhereItMay", spec := "nicWritesWhereItMay", inPlace := ["internal/abi.NoEscape"], unfollowed := true, recurses := true, apart := false, narrowed := true }
def NicWritesWhereItMayUptoSaid : Prop := nicWritesWhereItMayUptoRow.holds Try.pinned (OpenSpec.upto nicWritesWhereItMaySpec)

/-- 'simulacrumlaw18.NicCarriesPackets', WHERE WHAT IT READS IS OF BULK AT MOST 1048576: true; the input reads as it did. -/
def nicCarriesPacketsUptoRow : OpenClaim := { program := "ytaeoaakblilfeaa", sum := "95cf1fba33b9b8e2db9a1f0b944dcfc2b13752e6a423dcb07610554cb604af9d", func := "simulacrum/simulacrumlaw18.NicCarriesPackets", spec := "nicCarriesPackets", inPlace := ["internal/abi.NoEscape"], unfollowed := true, recurses := true, apart := false, narrowed := true }
def NicCarriesPacketsUptoSaid : Prop := nicCarriesPacketsUptoRow.holds Try.pinned (OpenSpec.upto nicCarriesPacketsSpec)

/-- 'simulacrumlaw18.NicCountsPackets', WHERE WHAT IT READS IS OF BULK AT MOST 1048576: true; the input reads as it did. -/
def nicCountsPacketsUptoRow : OpenClaim := { program := "ytaeoaakblilfeaa", sum := "95cf1fba33b9b8e2db9a1f0b944dcfc2b13752e6a423dcb07610554cb604af9d", func := "simulacrum/simulacrumlaw18.NicCountsPackets", spec := "nicCountsPackets", inPlace := ["internal/abi.NoEscape"], unfollowed := true, recurses := true, apart := false, narrowed := true }
def NicCountsPacketsUptoSaid : Prop := nicCountsPacketsUptoRow.holds Try.pinned (OpenSpec.upto nicCountsPacketsSpec)

end Rows
end Go.Proofs.Ytaeoaakblilfeaa
