/- The checks at service 2, operations 4 to 7. -/
import Derived.Test.YtnbjjmnohlnplaaGreatQDwa
namespace Go.Proofs.YtnbjjmnohlnplaaGreat.M
open Go Go.MG
set_option linter.unusedVariables false
set_option linter.unusedSimpArgs false
set_option maxRecDepth 1000000
theorem chk_2_4 : chk 2 4 = true := by decide +kernel
theorem chk_2_5 : chk 2 5 = true := by decide +kernel
theorem chk_2_6 : chk 2 6 = true := by decide +kernel
theorem chk_2_7 : chk 2 7 = true := by decide +kernel
end Go.Proofs.YtnbjjmnohlnplaaGreat.M
