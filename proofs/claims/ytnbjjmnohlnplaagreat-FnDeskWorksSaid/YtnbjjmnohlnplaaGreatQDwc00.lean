/- The checks at service 0, operations 0 to 3. -/
import Derived.Test.YtnbjjmnohlnplaaGreatQDwa
namespace Go.Proofs.YtnbjjmnohlnplaaGreat.M
open Go Go.MG
set_option linter.unusedVariables false
set_option linter.unusedSimpArgs false
set_option maxRecDepth 1000000
theorem chk_0_0 : chk 0 0 = true := by decide +kernel
theorem chk_0_1 : chk 0 1 = true := by decide +kernel
theorem chk_0_2 : chk 0 2 = true := by decide +kernel
theorem chk_0_3 : chk 0 3 = true := by decide +kernel
end Go.Proofs.YtnbjjmnohlnplaaGreat.M
