/-
  Layer 6: the law LexTokens.
-/
import Derived.Test.YtijcddlahidhhaaDoorLxF
set_option linter.unusedSectionVars false
set_option linter.unusedVariables false
set_option linter.unusedSimpArgs false
set_option maxRecDepth 100000
namespace Go.Hl
open Go Go.Proofs Go.RowKit

theorem toks_le (s : ByteArray) : (toks s.data.toList 0).length ≤ s.size := by
  have hl := toks_length s.size s.data.toList 0 (by rw [len_list]; exact Nat.le_refl _)
  rwa [len_list] at hl

end Go.Hl
