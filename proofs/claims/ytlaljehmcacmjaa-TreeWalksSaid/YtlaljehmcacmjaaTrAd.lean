/-
  Plain laws: Place and Strip are the reference's.
-/
import Derived.Test.YtlaljehmcacmjaaTrAc
import Derived.Test.YtlaljehmcacmjaaTrS
set_option linter.unusedVariables false
namespace Go.Hl
open Go Go.Proofs

theorem formed_inner {k : Int} {g t : ByteArray} {a : Int} {ks : List Nd} (h : formedB (.mk k g t a ks) = true) (hk : ¬ k = 1) : t = ⟨#[]⟩ ∧ g = ⟨#[]⟩ ∧ a = 0 := by
  simp only [formedB, hk, if_false] at h
  split at h
  · cases h
  · simpa using h

mutual
theorem rpl_pl (d : Int) : ∀ (n : Nd) (z : Int), allF (preN d n) = true → rplN n z = plN n z
  | .mk k g t a ks, z, h => by
    simp only [preN, allF_cons, Bool.and_eq_true] at h
    by_cases hk : k = 1
    · simp only [rplN, plN, if_pos hk]
    · obtain ⟨rfl, rfl, rfl⟩ := formed_inner h.1 hk
      simp only [rplN, plN, if_neg hk, rpl_pls (d + 1) ks z h.2]
theorem rpl_pls (d : Int) : ∀ (ns : List Nd) (z : Int), allF (preNs d ns) = true → rplNs ns z = plNs ns z
  | [], z, h => rfl
  | n :: ns, z, h => by
    simp only [preNs, allF_append, Bool.and_eq_true] at h
    simp only [rplNs, plNs, rpl_pl d n z h.1, rpl_pls d ns _ h.2]
end

mutual
theorem rst_st (d : Int) : ∀ (n : Nd), allF (preN d n) = true → rstN n = stN n
  | .mk k g t a ks, h => by
    simp only [preN, allF_cons, Bool.and_eq_true] at h
    by_cases hk : k = 1
    · have := formed_leaf h.1 hk
      subst this
      subst hk
      simp [rstN, rstNs, stN, stNd]
    · obtain ⟨rfl, rfl, rfl⟩ := formed_inner h.1 hk
      simp only [rstN, stN, if_neg hk, rst_sts (d + 1) ks h.2]
theorem rst_sts (d : Int) : ∀ (ns : List Nd), allF (preNs d ns) = true → rstNs ns = stNs ns
  | [], h => rfl
  | n :: ns, h => by
    simp only [preNs, allF_append, Bool.and_eq_true] at h
    simp only [rstNs, stNs, rst_st d n h.1, rst_sts d ns h.2]
end

end Go.Hl
