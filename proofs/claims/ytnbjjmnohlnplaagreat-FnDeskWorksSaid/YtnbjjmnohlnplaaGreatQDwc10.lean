/- The checks at service 1, operations 0 to 3. -/
import Derived.Test.YtnbjjmnohlnplaaGreatQDwa
namespace Go.Proofs.YtnbjjmnohlnplaaGreat.M
open Go Go.MG
set_option linter.unusedVariables false
set_option linter.unusedSimpArgs false
set_option maxRecDepth 1000000
theorem chk_1_0 : chk 1 0 = true := by decide +kernel
theorem chk_1_1 : chk 1 1 = true := by decide +kernel
theorem chk_1_2 : chk 1 2 = true := by decide +kernel
theorem chk_1_3 : chk 1 3 = true := by decide +kernel
end Go.Proofs.YtnbjjmnohlnplaaGreat.M
