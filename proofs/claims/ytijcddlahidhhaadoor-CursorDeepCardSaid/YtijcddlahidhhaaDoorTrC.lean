/-
  tree.formed, tree.Right, tree.Walk, tree.Leaves, tree.Count.
-/
import Derived.Test.YtijcddlahidhhaaDoorTrB
set_option linter.unusedSectionVars false
set_option linter.unusedVariables false
set_option linter.unusedSimpArgs false
set_option maxRecDepth 100000
namespace Go.Hl
open Go Go.Proofs

end Go.Hl
