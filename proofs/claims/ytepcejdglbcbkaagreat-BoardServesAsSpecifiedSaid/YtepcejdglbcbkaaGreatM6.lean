/- Part of the texts on which proofs about this seat rest: each says what it proves at its own head. No condition. -/
import Derived.Test.YtepcejdglbcbkaaGreatM5
set_option linter.unusedVariables false
set_option linter.unusedSimpArgs false
/- The examples of the chapter hold. No condition. -/
namespace Go.Proofs.YtepcejdglbcbkaaGreat
open Go.Abs
theorem aaA:dS (ab FN 20000) 10 []=some (.bool true):=by kernel_rfl
end Go.Proofs.YtepcejdglbcbkaaGreat
