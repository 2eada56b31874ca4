/-
  Layer 6: plain laws: tokens lie side by side; a real token's text is that token alone.
-/
import Derived.Test.YtijcddlahidhhaaDoorLxI
set_option linter.unusedSectionVars false
set_option linter.unusedVariables false
set_option linter.unusedSimpArgs false
set_option maxRecDepth 100000
namespace Go.Hl
open Go Go.Proofs Go.RowKit

def tiled : Nat → List Tk3 → Nat → Prop
  | a, [], e => a = e
  | a, x :: r, e => x.f = a ∧ a < x.t ∧ x.t ≤ e ∧ tiled x.t r e
theorem toks_tiled : ∀ (n : Nat) (l : List UInt8) (a : Nat), l.length ≤ n → tiled a (toks l a) (a + l.length)
  | 0, l, a, h => by
    have : l = [] := List.length_eq_zero_iff.1 (by omega)
    subst this
    rfl
  | n + 1, l, a, h => by
    by_cases hl : l = []
    · subst hl; rfl
    · have h1 := lexN_len l hl
      rw [toks_cons l a hl]
      have := toks_tiled n (l.drop (lexN l).2) (a + (lexN l).2) (by rw [List.length_drop]; omega)
      rw [List.length_drop, show a + (lexN l).2 + (l.length - (lexN l).2) = a + l.length by omega] at this
      exact ⟨rfl, by simp only; omega, by simp only; omega, this⟩

end Go.Hl
