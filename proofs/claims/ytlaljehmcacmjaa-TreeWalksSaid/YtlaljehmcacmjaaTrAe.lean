/-
  Plain laws: what a tree costs, and what it costs when it is placed or stripped.
-/
import Derived.Test.YtlaljehmcacmjaaTrAd
set_option linter.unusedVariables false
namespace Go.Hl
open Go Go.Proofs

mutual
def sumN : Nd → Int
  | .mk k g t a ks => costN (.mk k g t a ks) + sumNs ks
def sumNs : List Nd → Int
  | [] => 0
  | n :: ns => sumN n + sumNs ns
end

mutual
theorem sumN_pos : ∀ n, 1 ≤ sumN n
  | .mk k g t a ks => by
    have := costN_pos (.mk k g t a ks)
    have := sumNs_pos ks
    simp only [sumN]
    omega
theorem sumNs_pos : ∀ ns, 0 ≤ sumNs ns
  | [] => by simp [sumNs]
  | n :: ns => by
    have := sumN_pos n
    have := sumNs_pos ns
    simp only [sumNs]
    omega
end

mutual
theorem docN_of_sum : ∀ (n : Nd) (many : Int), sumN n ≤ many → docN n many = many - sumN n
  | .mk k g t a ks, many, h => by
    simp only [docN, sumN] at h ⊢
    rw [docNs_of_sum ks _ (by omega)]
    omega
theorem docNs_of_sum : ∀ (ns : List Nd) (many : Int), sumNs ns ≤ many → docNs ns many = many - sumNs ns
  | [], many, h => by simp [docNs, sumNs]
  | n :: ns, many, h => by
    have := sumN_pos n
    have := sumNs_pos ns
    simp only [docNs, sumNs] at h ⊢
    rw [if_neg (by omega), docN_of_sum n many (by omega), docNs_of_sum ns _ (by omega)]
    omega
end

mutual
theorem sum_of_docN : ∀ (n : Nd) (many : Int), 0 ≤ docN n many → sumN n ≤ many
  | .mk k g t a ks, many, h => by
    simp only [docN, sumN] at h ⊢
    have := sum_of_docNs ks _ h
    omega
theorem sum_of_docNs : ∀ (ns : List Nd) (many : Int), 0 ≤ docNs ns many → sumNs ns ≤ many
  | [], many, h => by simpa [docNs, sumNs] using h
  | n :: ns, many, h => by
    simp only [docNs, sumNs] at h ⊢
    by_cases hm : many < 0
    · rw [if_pos hm] at h; omega
    · rw [if_neg hm] at h
      have h1 := sum_of_docNs ns _ h
      have h2 := sumNs_pos ns
      have h3 := sum_of_docN n many (by omega)
      rw [docN_of_sum n many h3] at h1
      omega
end

mutual
theorem pl_sum : ∀ (n : Nd) (z : Int), sumN (plN n z).2 = sumN n
  | .mk k g t a ks, z => by
    by_cases hk : k = 1
    · simp only [plN, if_pos hk, plNd, sumN, costN, Nd.gap, Nd.text]
    · simp only [plN, if_neg hk, sumN, pl_sums ks z, costN, Nd.gap, Nd.text]
theorem pl_sums : ∀ (ns : List Nd) (z : Int), sumNs (plNs ns z).2 = sumNs ns
  | [], z => rfl
  | n :: ns, z => by simp only [plNs, sumNs, pl_sum n z, pl_sums ns]
end

mutual
theorem st_sum : ∀ (n : Nd), sumN (stN n) ≤ sumN n
  | .mk k g t a ks => by
    have h0 := sumNs_pos ks
    by_cases hk : k = 1
    · have e : (ByteArray.mk #[]).size = 0 := rfl
      simp only [stN, if_pos hk, stNd, sumN, sumNs, costN, Nd.gap, Nd.text, e]
      omega
    · have := st_sums ks
      simp only [stN, if_neg hk, sumN, costN, Nd.gap, Nd.text]
      omega
theorem st_sums : ∀ (ns : List Nd), sumNs (stNs ns) ≤ sumNs ns
  | [] => by simp [stNs]
  | n :: ns => by
    have h1 := st_sum n
    have h2 := st_sums ns
    simp only [stNs, sumNs]
    omega
end

mutual
theorem pl_fit : ∀ (n : Nd) (z : Int), fitN n → fitN (plN n z).2
  | .mk k g t a ks, z, h => by
    simp only [fitN] at h
    by_cases hk : k = 1
    · simp only [plN, if_pos hk, plNd, fitN]
      exact h
    · simp only [plN, if_neg hk, fitN, pls_len]
      exact ⟨h.1, h.2.1, h.2.2.1, pl_fits ks z h.2.2.2⟩
theorem pl_fits : ∀ (ns : List Nd) (z : Int), fitNs ns → fitNs (plNs ns z).2
  | [], z, h => trivial
  | n :: ns, z, h => ⟨pl_fit n z h.1, pl_fits ns _ h.2⟩
end

theorem sts_len : ∀ (ns : List Nd), (stNs ns).length = ns.length
  | [] => rfl
  | n :: ns => by simp only [stNs, List.length_cons, sts_len ns]

mutual
theorem st_fit : ∀ (n : Nd), fitN n → fitN (stN n)
  | .mk k g t a ks, h => by
    simp only [fitN] at h
    by_cases hk : k = 1
    · simp only [stN, if_pos hk, stNd, fitN]
      exact ⟨by decide, h.2.1, by decide, trivial⟩
    · simp only [stN, if_neg hk, fitN, sts_len]
      exact ⟨h.1, h.2.1, h.2.2.1, st_fits ks h.2.2.2⟩
theorem st_fits : ∀ (ns : List Nd), fitNs ns → fitNs (stNs ns)
  | [], h => trivial
  | n :: ns, h => ⟨st_fit n h.1, st_fits ns h.2⟩
end

end Go.Hl
