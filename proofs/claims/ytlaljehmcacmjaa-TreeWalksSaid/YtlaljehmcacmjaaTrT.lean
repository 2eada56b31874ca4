/-
  Plain laws: the program's answers are the reference's.
-/
import Derived.Test.YtlaljehmcacmjaaTrTa
import Derived.Test.YtlaljehmcacmjaaTrJ
set_option linter.unusedSectionVars false
set_option linter.unusedVariables false
set_option linter.unusedSimpArgs false
namespace Go.Hl
open Go Go.Proofs

/-! ### Stands -/

theorem stands_run : ∀ (xs : List Nd) (z a c : Int), -9223372036854775808 ≤ z → z ≤ 9223372036854775807 → c = IntKind.i64.wrap (z + a) → (rngRun standStep (c, false) xs).2.isNone = rStandL z xs a
  | [], z, a, c, h0, h1, hc => rfl
  | x :: xs, z, a, c, h0, h1, hc => by
    have hw : ∀ y, IntKind.i64.wrap y = (y + 9223372036854775808) % 18446744073709551616 - 9223372036854775808 := fun y => by rw [IntKind.wrap_i64]
    have hiff : (IntKind.i64.wrap (x.at_ - x.gap.size) = c) ↔ (IntKind.i64.wrap (x.at_ - IntKind.i64.wrap (a + x.gap.size)) = z) := by
      rw [hc]
      simp only [hw]
      omega
    by_cases hk : IntKind.i64.wrap (x.at_ - x.gap.size) = c
    · have hs : standStep (c, false) x = ((IntKind.i64.wrap (x.at_ + x.text.size), false), none) := by simp only [standStep, hk, if_true]
      simp only [rngRun, hs, rStandL]
      rw [if_pos (hiff.1 hk)]
      refine stands_run xs z _ _ h0 h1 ?_
      have hk2 := hiff.1 hk
      simp only [hw] at hk2 ⊢
      omega
    · have hs : standStep (c, false) x = ((c, false), some .ret) := by simp only [standStep, hk, if_false]
      simp only [rngRun, hs, rStandL]
      rw [if_neg (fun h => hk (hiff.2 h))]
      rfl

/-! ### Span -/

theorem spanRun_leaves : ∀ (xs : List (Int × Nd)) (c : SpC), spanRun c xs = match leavesL xs with
    | [] => c
    | x :: ys => ⟨if c.ok then c.a else x.at_, IntKind.i64.wrap (((x :: ys).getLastD x).at_ + ((x :: ys).getLastD x).text.size), true⟩
  | [], c => rfl
  | (d, n) :: xs, c => by
    simp only [spanRun]
    rw [spanRun_leaves xs]
    by_cases hk : n.kind = 1
    · have hl : leavesL ((d, n) :: xs) = n :: leavesL xs := by simp [leavesL, hk]
      have hs : spStep c n = ⟨if c.ok then c.a else n.at_, IntKind.i64.wrap (n.at_ + n.text.size), true⟩ := by simp [spStep, hk]
      rw [hl, hs]
      cases leavesL xs with
      | nil => rfl
      | cons y ys => simp [List.getLastD_cons, List.getLast?_cons]
    · have hl : leavesL ((d, n) :: xs) = leavesL xs := by simp [leavesL, hk]
      have hs : spStep c n = c := by simp [spStep, hk]
      rw [hl, hs]

theorem spanN_eq (n : Nd) : spanN n = rSpanL (leavesL (preN 0 n)) := by
  unfold spanN rSpanL
  rw [spanRun_leaves]
  cases leavesL (preN 0 n) <;> rfl

end Go.Hl
