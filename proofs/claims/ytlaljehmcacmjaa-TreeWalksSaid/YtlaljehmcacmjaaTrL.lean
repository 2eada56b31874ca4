/-
  Plain laws: when a tree is right; what Document counts.
-/
import Derived.Test.YtlaljehmcacmjaaTrK
set_option linter.unusedSectionVars false
set_option linter.unusedVariables false
set_option linter.unusedSimpArgs false
namespace Go.Hl
open Go Go.Proofs

def allF (xs : List (Int × Nd)) : Bool := xs.all fun x => formedB x.2
def limited : Int → List (Int × Nd) → Prop
  | _, [] => True
  | c, x :: xs => c + 1 + (x.2.kids.length : Int) ≤ 20000 ∧ limited (c + 1) xs

theorem limited_append : ∀ (xs ys : List (Int × Nd)) (c : Int), limited c xs → limited (c + xs.length) ys → limited c (xs ++ ys)
  | [], ys, c, _, h => by simpa using h
  | x :: xs, ys, c, h, h2 => by
    refine ⟨h.1, limited_append xs ys (c + 1) h.2 ?_⟩
    simp only [List.length_cons] at h2
    rw [show c + 1 + (xs.length : Int) = c + ((xs.length + 1 : Nat) : Int) by omega]
    exact h2

mutual
theorem limN (d : Int) : ∀ (n : Nd) (c : Int), c + cntN n ≤ 20000 → limited c (preN d n)
  | .mk k g t a ks, c, h => by
    have := kids_le ks
    simp only [cntN] at h
    simp only [preN, limited, Nd.kids]
    exact ⟨by omega, limNs (d + 1) ks (c + 1) (by omega)⟩
theorem limNs (d : Int) : ∀ (ns : List Nd) (c : Int), c + cntNs ns ≤ 20000 → limited c (preNs d ns)
  | [], c, h => trivial
  | n :: ns, c, h => by
    simp only [cntNs] at h
    simp only [preNs]
    exact limited_append _ _ c (limN d n c (by omega)) (by rw [preN_len]; exact limNs d ns _ (by omega))
end

theorem rightRun_limited : ∀ (xs : List (Int × Nd)) (c : Int × Bool), limited c.1 xs → c.2 = true → (allF xs = true → rightRun c xs = (c.1 + xs.length, true)) ∧ (allF xs = false → (rightRun c xs).2 = false)
  | [], c, h, hc => ⟨fun _ => by cases c; simp at hc; simp [rightRun, hc], fun h => by simp [allF] at h⟩
  | x :: xs, c, h, hc => by
    obtain ⟨d, n⟩ := x
    obtain ⟨m, b⟩ := c
    simp only [limited] at h
    have hd : decide (m + 1 + (n.kids.length : Int) ≤ 20000) = true := by simp; exact h.1
    have ih := rightRun_limited xs (m + 1, true) h.2 rfl
    cases hf : formedB n
    · have hs : rightStep (m, b) (d, n) = ((m + 1, false), false) := by simp [rightStep, hf]
      refine ⟨fun h1 => ?_, fun _ => ?_⟩
      · simp [allF, hf] at h1
      · simp [rightRun, hs]
    · have hs : rightStep (m, b) (d, n) = ((m + 1, true), true) := by simp [rightStep, hf]; exact h.1
      have ha : allF ((d, n) :: xs) = allF xs := by simp [allF, hf]
      rw [ha]
      simp only [rightRun, hs, if_true]
      refine ⟨fun h1 => ?_, ih.2⟩
      rw [ih.1 h1]
      simp only [List.length_cons]
      congr 1
      omega

theorem rightN_all (n : Nd) (h : cntN n ≤ 20000) : rightN n = allF (preN 0 n) := by
  obtain ⟨h1, h2⟩ := rightRun_limited (preN 0 n) (0, true) (limN 0 n 0 (by omega)) rfl
  unfold rightN
  cases ha : allF (preN 0 n)
  · rw [h2 ha]; rfl
  · rw [h1 ha, preN_len]
    simp
    omega

theorem allF_append (xs ys : List (Int × Nd)) : allF (xs ++ ys) = (allF xs && allF ys) := by simp [allF]

/-! ### What Document counts -/

mutual
def totN : Nd → Nat
  | .mk k g t a ks => g.size + t.size + totNs ks
def totNs : List Nd → Nat
  | [] => 0
  | n :: ns => totN n + totNs ns
end

mutual
theorem docN_cost : ∀ (n : Nd) (many : Int), 0 ≤ docN n many → (cntN n : Int) + docN n many ≤ many ∧ (totN n : Int) + 50 * docN n many ≤ 50 * many
  | .mk k g t a ks, many, h => by
    simp only [docN] at h ⊢
    have hc : costN (.mk k g t a ks) = 1 + (g.size + t.size : Nat) / 50 := rfl
    have := docNs_cost ks _ h
    simp only [cntN, totN]
    omega
theorem docNs_cost : ∀ (ns : List Nd) (many : Int), 0 ≤ docNs ns many → (cntNs ns : Int) + docNs ns many ≤ many ∧ (totNs ns : Int) + 50 * docNs ns many ≤ 50 * many
  | [], many, h => by simp only [docNs, cntNs, totNs]; omega
  | n :: ns, many, h => by
    simp only [docNs] at h ⊢
    split at h
    · omega
    · rename_i hm
      rw [if_neg hm]
      have h1 := docNs_cost ns _ h
      have h2 := docN_cost n many (by
        by_cases hn : docN n many < 0
        · have := docNs_neg ns _ hn; omega
        · omega)
      simp only [cntNs, totNs]
      omega
end

def totX : List (Int × Nd) → Nat
  | [] => 0
  | x :: xs => x.2.gap.size + x.2.text.size + totX xs
theorem totX_append : ∀ xs ys, totX (xs ++ ys) = totX xs + totX ys
  | [], ys => by simp [totX]
  | x :: xs, ys => by simp only [List.cons_append, totX, totX_append xs ys]; omega
mutual
theorem totX_pre (d : Int) : ∀ n, totX (preN d n) = totN n
  | .mk k g t a ks => by simp only [preN, totX, totN, Nd.gap, Nd.text, totX_pres (d + 1) ks]
theorem totX_pres (d : Int) : ∀ ns, totX (preNs d ns) = totNs ns
  | [] => rfl
  | n :: ns => by simp only [preNs, totX_append, totNs, totX_pre d n, totX_pres d ns]
end
theorem textLen_le : ∀ xs, textLen (leavesL xs) ≤ totX xs
  | [] => Nat.le_refl _
  | (d, n) :: xs => by
    have := textLen_le xs
    simp only [leavesL, totX]
    split
    · simp only [textLen]; omega
    · omega

end Go.Hl
