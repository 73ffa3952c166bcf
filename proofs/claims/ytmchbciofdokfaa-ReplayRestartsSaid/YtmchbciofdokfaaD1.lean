/- The small functions of disk.Disk, at every disk that was made: none, isBlock, fall, act, Start, Down, Waiting, Acts, Falls, Arm. -/
import Derived.Test.YtmchbciofdokfaaProg
import Derived.Test.YtmchbciofdokfaaD0
namespace Go.Proofs.Ytmchbciofdokfaa
open Go.RowKit
set_option linter.unusedSimpArgs false
set_option linter.unusedVariables false

/-- Is there such a block? -/
def isB (n : Int) : Bool := decide (0 ≤ n) && decide (n < 3120)
theorem zero_armed : (0 : Int) ≤ 0 ∧ (0 : Int) ≤ 2 ^ 63 - 1 := ⟨by omega, by omega⟩

end Go.Proofs.Ytmchbciofdokfaa
