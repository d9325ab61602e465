/- The checks at service 2, operations 0 to 3. -/
import Derived.Test.YtnbjjmnohlnplaaGreatQDwa
namespace Go.Proofs.YtnbjjmnohlnplaaGreat.M
open Go Go.MG
set_option linter.unusedVariables false
set_option linter.unusedSimpArgs false
set_option maxRecDepth 1000000
theorem chk_2_0 : chk 2 0 = true := by decide +kernel
theorem chk_2_1 : chk 2 1 = true := by decide +kernel
theorem chk_2_2 : chk 2 2 = true := by decide +kernel
theorem chk_2_3 : chk 2 3 = true := by decide +kernel
end Go.Proofs.YtnbjjmnohlnplaaGreat.M
