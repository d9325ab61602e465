/- The checks at service 0, operations 4 to 7. -/
import Derived.Test.YtnbjjmnohlnplaaGreatQDwa
namespace Go.Proofs.YtnbjjmnohlnplaaGreat.M
open Go Go.MG
set_option linter.unusedVariables false
set_option linter.unusedSimpArgs false
set_option maxRecDepth 1000000
theorem chk_0_4 : chk 0 4 = true := by decide +kernel
theorem chk_0_5 : chk 0 5 = true := by decide +kernel
theorem chk_0_6 : chk 0 6 = true := by decide +kernel
theorem chk_0_7 : chk 0 7 = true := by decide +kernel
end Go.Proofs.YtnbjjmnohlnplaaGreat.M
