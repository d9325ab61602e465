/- The checks at service 1, operations 4 to 7. -/
import Derived.Test.YtnbjjmnohlnplaaGreatQDwa
namespace Go.Proofs.YtnbjjmnohlnplaaGreat.M
open Go Go.MG
set_option linter.unusedVariables false
set_option linter.unusedSimpArgs false
set_option maxRecDepth 1000000
theorem chk_1_4 : chk 1 4 = true := by decide +kernel
theorem chk_1_5 : chk 1 5 = true := by decide +kernel
theorem chk_1_6 : chk 1 6 = true := by decide +kernel
theorem chk_1_7 : chk 1 7 = true := by decide +kernel
end Go.Proofs.YtnbjjmnohlnplaaGreat.M
