/-
  Plain laws: what is placed stands right and keeps its text.
-/
import Derived.Test.YtlaljehmcacmjaaTrL
import Derived.Test.YtlaljehmcacmjaaTrQ
set_option linter.unusedSectionVars false
set_option linter.unusedVariables false
set_option linter.unusedSimpArgs false
namespace Go.Hl
open Go Go.Proofs

theorem leavesL_append2 : ∀ a b, leavesL (a ++ b) = leavesL a ++ leavesL b
  | [], b => rfl
  | (d, n) :: a, b => by
    simp only [List.cons_append, leavesL, leavesL_append2 a b]
    split <;> rfl

def plL : List Nd → Int → List Nd
  | [], z => []
  | x :: xs, z => plNd z x :: plL xs (plStep z x)
def plZ : List Nd → Int → Int
  | [], z => z
  | x :: xs, z => plZ xs (plStep z x)
theorem plL_append : ∀ (xs ys : List Nd) (z : Int), plL (xs ++ ys) z = plL xs z ++ plL ys (plZ xs z)
  | [], ys, z => rfl
  | x :: xs, ys, z => by simp only [List.cons_append, plL, plZ, plL_append xs ys]
theorem plZ_append : ∀ (xs ys : List Nd) (z : Int), plZ (xs ++ ys) z = plZ ys (plZ xs z)
  | [], ys, z => rfl
  | x :: xs, ys, z => by simp only [List.cons_append, plZ, plZ_append xs ys]

theorem formed_leaf {k : Int} {g t : ByteArray} {a : Int} {ks : List Nd} (h : formedB (.mk k g t a ks) = true) (hk : k = 1) : ks = [] := by
  subst hk
  simp [formedB] at h
  exact h.2.2

theorem allF_cons (d : Int) (n : Nd) (xs : List (Int × Nd)) : allF ((d, n) :: xs) = (formedB n && allF xs) := by simp [allF]

mutual
theorem pl_leaves (d : Int) : ∀ (n : Nd) (z : Int), allF (preN d n) = true → leavesL (preN d (plN n z).2) = plL (leavesL (preN d n)) z ∧ (plN n z).1 = plZ (leavesL (preN d n)) z
  | .mk k g t a ks, z, h => by
    simp only [preN, allF_cons, Bool.and_eq_true] at h
    by_cases hk : k = 1
    · have := formed_leaf h.1 hk
      subst this
      subst hk
      simp [plN, plNd, preN, preNs, leavesL, plL, plZ, Nd.kind]
    · have ih := pl_leaves' (d + 1) ks z h.2
      have hk' : ¬ (Nd.mk k g t a ks).kind = 1 := hk
      have hk2 : ¬ (Nd.mk k g t a (plNs ks z).2).kind = 1 := hk
      simp only [plN, if_neg hk, preN, leavesL, if_neg hk', if_neg hk2]
      exact ih
theorem pl_leaves' (d : Int) : ∀ (ns : List Nd) (z : Int), allF (preNs d ns) = true → leavesL (preNs d (plNs ns z).2) = plL (leavesL (preNs d ns)) z ∧ (plNs ns z).1 = plZ (leavesL (preNs d ns)) z
  | [], z, h => ⟨rfl, rfl⟩
  | n :: ns, z, h => by
    simp only [preNs, allF_append, Bool.and_eq_true] at h
    have h1 := pl_leaves d n z h.1
    have h2 := pl_leaves' d ns (plN n z).1 h.2
    simp only [plNs, preNs, leavesL_append2, plL_append, plZ_append]
    rw [← h1.2, ← h2.1, h1.1, ← h2.2]
    exact ⟨rfl, rfl⟩
end

mutual
theorem pl_cnt : ∀ (n : Nd) (z : Int), cntN (plN n z).2 = cntN n
  | .mk k g t a ks, z => by
    by_cases hk : k = 1
    · simp [plN, hk, plNd, cntN]
    · simp only [plN, if_neg hk, cntN, pl_cnt' ks z]
theorem pl_cnt' : ∀ (ns : List Nd) (z : Int), cntNs (plNs ns z).2 = cntNs ns
  | [], z => rfl
  | n :: ns, z => by simp only [plNs, cntNs, pl_cnt n z, pl_cnt' ns]
end
theorem pls_len : ∀ (ns : List Nd) (z : Int), (plNs ns z).2.length = ns.length
  | [], z => rfl
  | n :: ns, z => by simp only [plNs, List.length_cons, pls_len ns]

mutual
theorem pl_all (d : Int) : ∀ (n : Nd) (z : Int), allF (preN d n) = true → 0 ≤ z → z + totN n ≤ 1099511627776 → allF (preN d (plN n z).2) = true ∧ z ≤ (plN n z).1 ∧ (plN n z).1 ≤ z + totN n
  | .mk k g t a ks, z, h, h0, h1 => by
    simp only [preN, allF_cons, Bool.and_eq_true] at h
    simp only [totN] at h1 ⊢
    by_cases hk : k = 1
    · have := formed_leaf h.1 hk
      subst this
      subst hk
      have ha : plAt z (.mk 1 g t a []) = z + g.size := IntWalk.i64_in _ (by simp only [Nd.gap]; omega)
      have hs : plStep z (.mk 1 g t a []) = z + g.size + t.size := by unfold plStep; rw [ha]; exact IntWalk.i64_in _ (by simp only [Nd.text]; omega)
      have hf := h.1
      simp only [plN, if_true, plNd, preN, preNs, allF_cons, hs, ha]
      refine ⟨?_, by omega, by simp only [totNs]; omega⟩
      simp [formedB] at hf
      simp [formedB, allF, hf.1]
      omega
    · have ih := pl_all' (d + 1) ks z h.2 h0 (by omega)
      simp only [plN, if_neg hk, preN, allF_cons, Bool.and_eq_true]
      refine ⟨⟨?_, ih.1⟩, ih.2.1, by omega⟩
      have hf := h.1
      simp only [formedB, hk, if_false] at hf ⊢
      exact hf
theorem pl_all' (d : Int) : ∀ (ns : List Nd) (z : Int), allF (preNs d ns) = true → 0 ≤ z → z + totNs ns ≤ 1099511627776 → allF (preNs d (plNs ns z).2) = true ∧ z ≤ (plNs ns z).1 ∧ (plNs ns z).1 ≤ z + totNs ns
  | [], z, h, h0, h1 => by simp [plNs, preNs, allF, totNs]
  | n :: ns, z, h, h0, h1 => by
    simp only [preNs, allF_append, Bool.and_eq_true] at h
    simp only [totNs] at h1 ⊢
    have a1 := pl_all d n z h.1 h0 (by omega)
    have a2 := pl_all' d ns (plN n z).1 h.2 (by omega) (by omega)
    simp only [plNs, preNs, allF_append, Bool.and_eq_true]
    exact ⟨⟨a1.1, a2.1⟩, by omega, by omega⟩
end

theorem plL_text : ∀ (xs : List Nd) (z : Int), textL (plL xs z) = textL xs
  | [], z => rfl
  | .mk k g t a ks :: xs, z => by simp only [plL, textL, plL_text xs]; rfl

theorem plL_stands : ∀ (xs : List Nd) (z : Int), -9223372036854775808 ≤ z → z ≤ 9223372036854775807 → (rngRun standStep (z, false) (plL xs z)).2.isNone = true
  | [], z, h0, h1 => rfl
  | .mk k g t a ks :: xs, z, h0, h1 => by
    have hw : ∀ y, IntKind.i64.wrap y = (y + 9223372036854775808) % 18446744073709551616 - 9223372036854775808 := fun y => by rw [IntKind.wrap_i64]
    have hk : IntKind.i64.wrap ((plNd z (.mk k g t a ks)).at_ - (plNd z (.mk k g t a ks)).gap.size) = z := by
      simp only [plNd, plAt, Nd.at_, Nd.gap, hw]
      omega
    have hs : standStep (z, false) (plNd z (.mk k g t a ks)) = ((IntKind.i64.wrap ((plNd z (.mk k g t a ks)).at_ + (plNd z (.mk k g t a ks)).text.size), false), none) := by simp only [standStep, hk, if_true]
    simp only [plL, rngRun, hs]
    refine plL_stands xs _ ?_ ?_
    · simp only [plStep, hw]; omega
    · simp only [plStep, hw]; omega

mutual
theorem pl_st (d : Int) : ∀ (n : Nd) (z : Int), stN (plN n z).2 = stN n
  | .mk k g t a ks, z => by
    by_cases hk : k = 1
    · subst hk; simp [plN, plNd, stN, stNd]
    · simp only [plN, if_neg hk, stN, pl_st' d ks z]
theorem pl_st' (d : Int) : ∀ (ns : List Nd) (z : Int), stNs (plNs ns z).2 = stNs ns
  | [], z => rfl
  | n :: ns, z => by simp only [plNs, stNs, pl_st d n z, pl_st' d ns]
end

mutual
theorem st_all (d : Int) : ∀ (n : Nd), allF (preN d n) = true → allF (preN d (stN n)) = true ∧ cntN (stN n) = cntN n
  | .mk k g t a ks, h => by
    simp only [preN, allF_cons, Bool.and_eq_true] at h
    by_cases hk : k = 1
    · have := formed_leaf h.1 hk
      subst this
      subst hk
      have hf := h.1
      simp [formedB] at hf
      simp [stN, stNd, preN, preNs, allF, formedB, cntN, cntNs, hf.1]
    · have ih := st_all' (d + 1) ks h.2
      simp only [stN, if_neg hk, preN, allF_cons, Bool.and_eq_true, cntN, ih.2]
      refine ⟨⟨?_, ih.1⟩, trivial⟩
      have hf := h.1
      simp only [formedB, hk, if_false] at hf ⊢
      exact hf
theorem st_all' (d : Int) : ∀ (ns : List Nd), allF (preNs d ns) = true → allF (preNs d (stNs ns)) = true ∧ cntNs (stNs ns) = cntNs ns
  | [], h => ⟨h, rfl⟩
  | n :: ns, h => by
    simp only [preNs, allF_append, Bool.and_eq_true] at h
    have h1 := st_all d n h.1
    have h2 := st_all' d ns h.2
    simp only [stNs, preNs, allF_append, Bool.and_eq_true, cntNs, h1.2, h2.2]
    exact ⟨⟨h1.1, h2.1⟩, trivial⟩
end

mutual
theorem eqN_refl : ∀ n, eqN n n = true
  | .mk k g t a ks => by simp [eqN, Nd.kind, Nd.gap, Nd.text, Nd.at_, Nd.kids, eqNs_refl ks]
theorem eqNs_refl : ∀ ns, eqNs ns ns = true
  | [] => rfl
  | n :: ns => by simp [eqNs, eqN_refl n, eqNs_refl ns]
end

end Go.Hl
