/-
  Plain laws: which trees are right is as the reference says.
-/
import Derived.Test.YtlaljehmcacmjaaTrL
import Derived.Test.YtlaljehmcacmjaaTrG
set_option linter.unusedSectionVars false
set_option linter.unusedVariables false
set_option linter.unusedSimpArgs false
namespace Go.Hl
open Go Go.Proofs

theorem formed_bad : ∀ n, formedB n = !badN n
  | .mk k g t a ks => by
    have be0 : ∀ b : ByteArray, b = ⟨#[]⟩ ↔ b.size = 0 := fun b => ⟨fun h => by rw [h]; rfl, fun h => by
      obtain ⟨⟨l⟩⟩ := b
      cases l with
      | nil => rfl
      | cons x l => simp [ByteArray.size] at h⟩
    have ke0 : ks = [] ↔ ks.length = 0 := List.length_eq_zero_iff.symm
    simp only [formedB, badN]
    split
    · rename_i h
      symm
      simp only [Bool.not_eq_eq_eq_not, Bool.not_false, decide_eq_true_eq]
      omega
    · rename_i h
      split
      · rename_i h1
        rw [Bool.eq_iff_iff]
        simp only [be0, ke0, Bool.not_eq_true', decide_eq_true_eq, decide_eq_false_iff_not]
        omega
      · rename_i h1
        rw [Bool.eq_iff_iff]
        simp only [be0, ke0, Bool.not_eq_true', decide_eq_true_eq, decide_eq_false_iff_not]
        omega

mutual
theorem leftN_all (d : Int) : ∀ (n : Nd) (many : Int), cntN n ≤ many → leftN n many = if allF (preN d n) = true then many - cntN n else -1
  | .mk k g t a ks, many, h => by
    simp only [cntN] at h
    have hf := formed_bad (.mk k g t a ks)
    have ha : allF ((d, Nd.mk k g t a ks) :: preNs (d + 1) ks) = (formedB (.mk k g t a ks) && allF (preNs (d + 1) ks)) := by simp [allF]
    have e : allF (preN d (.mk k g t a ks)) = (!badN (.mk k g t a ks) && allF (preNs (d + 1) ks)) := by simp only [preN]; rw [ha, hf]
    simp only [e, leftN, cntN]
    cases hb : badN (.mk k g t a ks)
    · rw [if_neg (by simp; omega)]
      rw [leftNs_all (d + 1) ks (many - 1) (by omega)]
      simp only [Bool.not_false, Bool.true_and]
      split <;> omega
    · rw [if_pos (by simp)]
      simp
theorem leftNs_all (d : Int) : ∀ (ns : List Nd) (many : Int), cntNs ns ≤ many → leftNs ns many = if allF (preNs d ns) = true then many - cntNs ns else -1
  | [], many, h => by simp [leftNs, preNs, allF, cntNs]
  | n :: ns, many, h => by
    simp only [cntNs] at h
    simp only [leftNs, preNs, cntNs, allF_append]
    rw [leftN_all d n many (by omega)]
    cases ha : allF (preN d n)
    · simp
    · simp only [if_true, Bool.true_and]
      rw [if_neg (by omega), leftNs_all d ns _ (by omega)]
      split <;> omega
end

theorem rRightN_all (n : Nd) (h : cntN n ≤ 20000) : rRightN n = allF (preN 0 n) := by
  unfold rRightN
  rw [leftN_all 0 n 20000 (by omega)]
  cases allF (preN 0 n)
  · rfl
  · simp; omega

end Go.Hl
