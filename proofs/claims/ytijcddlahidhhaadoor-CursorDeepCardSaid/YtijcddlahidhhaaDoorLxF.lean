/-
  Layer 6: the reference's list; the same tokens; the example.
-/
import Derived.Test.YtijcddlahidhhaaDoorLxE
import Derived.KernelRfl
set_option linter.unusedSectionVars false
set_option linter.unusedVariables false
set_option linter.unusedSimpArgs false
set_option maxRecDepth 100000

namespace Go.Hl
open Go Go.Proofs Go.RowKit

end Go.Hl
