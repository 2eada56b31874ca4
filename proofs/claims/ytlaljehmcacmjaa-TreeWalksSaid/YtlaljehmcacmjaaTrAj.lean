/-
  Plain laws for TreeWalks: the nodes of a tree cost no more than the tree.
-/
import Derived.Test.YtlaljehmcacmjaaTrAi
import Derived.Test.YtlaljehmcacmjaaTrAe
import Derived.Test.YtlaljehmcacmjaaTrAa
import Derived.Test.YtlaljehmcacmjaaTrTa
set_option linter.unusedVariables false
namespace Go.Hl
open Go Go.Proofs

mutual
theorem pre_sub (d : Int) : ∀ (n : Nd) (x : Int × Nd), x ∈ preN d n → sumN x.2 ≤ sumN n ∧ (fitN n → fitN x.2) ∧ cntN x.2 ≤ cntN n
  | .mk k g t a ks, x, h => by
    simp only [preN, List.mem_cons] at h
    rcases h with rfl | h
    · exact ⟨Int.le_refl _, fun h => h, Nat.le_refl _⟩
    · have := pres_sub (d + 1) ks x h
      have hc := costN_pos (.mk k g t a ks)
      simp only [sumN, cntN]
      refine ⟨by omega, fun hf => ?_, by omega⟩
      simp only [fitN] at hf
      exact this.2.1 hf.2.2.2
theorem pres_sub (d : Int) : ∀ (ks : List Nd) (x : Int × Nd), x ∈ preNs d ks → sumN x.2 ≤ sumNs ks ∧ (fitNs ks → fitN x.2) ∧ cntN x.2 ≤ cntNs ks
  | [], x, h => by simp [preNs] at h
  | n :: ns, x, h => by
    simp only [preNs, List.mem_append] at h
    have p1 := sumN_pos n
    have p2 := sumNs_pos ns
    simp only [sumNs, cntNs]
    rcases h with h | h
    · have := pre_sub d n x h
      exact ⟨by omega, fun hf => this.2.1 hf.1, by omega⟩
    · have := pres_sub d ns x h
      exact ⟨by omega, fun hf => this.2.1 hf.2, by omega⟩
end

/-- What the law asks of each node that it meets: it is the document's. -/
structure OkNd (x : Nd) : Prop where
  fit : fitN x
  cnt : cntN x ≤ 1099511627776
  is_ : (decide (0 ≤ docN x 5000) && eqN x x) = true

theorem okNd {n : Nd} (hf : fitN n) (h : sumN n ≤ 2000) (hc : cntN n ≤ 2000) : ∀ x ∈ preN 0 n, OkNd x.2 := fun x hx => by
  have := pre_sub 0 n x hx
  refine ⟨this.2.1 hf, by omega, ?_⟩
  rw [docN_of_sum _ 5000 (by omega), eqN_refl]
  simp
  omega

theorem leavesL_mem : ∀ {xs : List (Int × Nd)} {y : Nd}, y ∈ leavesL xs → ∃ x ∈ xs, x.2 = y
  | [], y, h => by simp [leavesL] at h
  | (d, n) :: xs, y, h => by
    simp only [leavesL] at h
    split at h
    · rcases List.mem_cons.1 h with rfl | h
      · exact ⟨(d, y), by simp, rfl⟩
      · obtain ⟨x, hx, e⟩ := leavesL_mem h
        exact ⟨x, by simp [hx], e⟩
    · obtain ⟨x, hx, e⟩ := leavesL_mem h
      exact ⟨x, by simp [hx], e⟩

theorem leavesL_le : ∀ xs : List (Int × Nd), (leavesL xs).length ≤ xs.length
  | [] => Nat.le_refl _
  | (d, n) :: xs => by
    have := leavesL_le xs
    simp only [leavesL]
    split <;> simp only [List.length_cons] <;> omega

theorem walk_sub {n : Nd} : ∀ x ∈ walkN n, x ∈ preN 0 n := fun x h => by
  unfold walkN at h
  split at h
  · exact h
  · simp at h

/-- A place, brought into the range from 1 to 60. -/
def stopV (s : Int) : Int := IntKind.i64.wrap (1 + IntKind.i64.wrap ((IntKind.u64.wrap s).tmod 60))
theorem stopV_pos (s : Int) : 1 ≤ stopV s ∧ stopV s ≤ 60 := by
  have h0 : 0 ≤ IntKind.u64.wrap s := by
    simp only [IntKind.wrap, IntKind.bits, IntKind.signed]
    simp
    omega
  unfold stopV
  generalize IntKind.u64.wrap s = y at *
  have h1 : y.tmod 60 = y % 60 := Int.tmod_eq_emod_of_nonneg h0
  rw [h1, IntWalk.i64_in (y % 60) (by omega), IntWalk.i64_in _ (by omega)]
  omega

end Go.Hl
