/-
  Layer 5: errors, words, names.
-/
import Derived.Test.YtijcddlahidhhaaDoorSgC
set_option linter.unusedSectionVars false
set_option linter.unusedVariables false
set_option linter.unusedSimpArgs false
set_option maxRecDepth 100000
namespace Go.Hl
open Go Go.Proofs

def erD : Int → D
  | 0 => .nili
  | n => .iface 32 (.int .i64 n)
theorem erD_pos {n : Int} (h : n ≠ 0) : erD n = .iface 32 (.int .i64 n) := by
  unfold erD
  split
  · exact absurd rfl h
  · rfl
theorem erD_zero : erD 0 = .nili := rfl

theorem num_calls (n : Int) (σ : St) : HCalls Tryd.prog 24 [erD n] σ (fun d σ' => d = .int .i64 n ∧ σ' = σ) := by
  refine hcalls_body (fn := Tryd.f24) rfl c24 (by simp [h24]) (by simp [h24, Tryd.f24]) ?_
  intro M hP hr hnt hnx hwf hlt
  simp only [h24, argEnv]
  by_cases h0 : n = 0
  · subst h0
    simp only [erD_zero]
    refine hgo_sound 60 ?_
    simp -implicitDefEqProofs (maxSteps := 1000000) only [simpS, ↓condJ_true, ↓condJ_false, ↓reduceIte, Nat.reduceEqDiff, Nat.reduceLT, Nat.reduceLeDiff, reduceCtorEq, Nat.reduceAdd, Nat.reduceSub, bindG_none, addG_none, hgrpK_none, nestK_none, hgrpK_guarded, Option.map_none, beq_self_eq_true, bne_self_eq_false, Option.map_some, if_true, if_false, List.getD_cons_zero, List.getD_cons_succ, List.length_cons, List.length_nil, List.mem_cons, List.not_mem_nil, List.mem_append, List.nil_append, List.cons_append, List.append_nil, List.take_succ_cons, List.take_zero, List.drop_succ_cons, List.drop_zero, List.set_cons_zero, List.set_cons_succ, List.map_cons, List.map_nil, implies_true, forall_const, ne_eq]
    exact fpost_pure (σ0 := σ) (.inr rfl) (by rw [hnx]; exact Nat.le_refl _) hwf (Sub.refl σ) rfl trivial trivial ⟨rfl, rfl⟩
  · rw [erD_pos h0]
    have hne : (n != 0) = true := by simp [h0]
    refine hgo_sound 60 ?_
    simp -implicitDefEqProofs (maxSteps := 1000000) only [simpS, ↓condJ_true, ↓condJ_false, ↓reduceIte, Nat.reduceEqDiff, Nat.reduceLT, Nat.reduceLeDiff, reduceCtorEq, Nat.reduceAdd, Nat.reduceSub, bindG_none, addG_none, hgrpK_none, nestK_none, hgrpK_guarded, Option.map_none, beq_self_eq_true, bne_self_eq_false, Option.map_some, if_true, if_false, List.getD_cons_zero, List.getD_cons_succ, List.length_cons, List.length_nil, List.mem_cons, List.not_mem_nil, List.mem_append, List.nil_append, List.cons_append, List.append_nil, List.take_succ_cons, List.take_zero, List.drop_succ_cons, List.drop_zero, List.set_cons_zero, List.set_cons_succ, List.map_cons, List.map_nil, implies_true, forall_const, ne_eq, hne]
    exact fpost_pure (σ0 := σ) (.inr rfl) (by rw [hnx]; exact Nat.le_refl _) hwf (Sub.refl σ) rfl trivial trivial ⟨rfl, rfl⟩

theorem is_calls (n k : Int) (σ : St) : HCalls Tryd.prog 9 [erD n, .int .i64 k] σ (fun d σ' => d = .bool (n == k) ∧ σ' = σ) := by
  refine hcalls_body (fn := Tryd.f9) rfl c9 (by simp [h9]) (by simp [h9, Tryd.f9]) ?_
  intro M hP hr hnt hnx hwf hlt
  simp only [h9, argEnv]
  refine hgo_sound 60 ?_
  simp -implicitDefEqProofs (maxSteps := 1000000) only [simpS, ↓condJ_true, ↓condJ_false, ↓reduceIte, Nat.reduceEqDiff, Nat.reduceLT, Nat.reduceLeDiff, reduceCtorEq, Nat.reduceAdd, Nat.reduceSub, bindG_none, addG_none, hgrpK_none, nestK_none, hgrpK_guarded, Option.map_none, beq_self_eq_true, bne_self_eq_false, Option.map_some, if_true, if_false, List.getD_cons_zero, List.getD_cons_succ, List.length_cons, List.length_nil, List.mem_cons, List.not_mem_nil, List.mem_append, List.nil_append, List.cons_append, List.append_nil, List.take_succ_cons, List.take_zero, List.drop_succ_cons, List.drop_zero, List.set_cons_zero, List.set_cons_succ, List.map_cons, List.map_nil, implies_true, forall_const, ne_eq]
  refine hx_call (f := .fn 24) rfl (by rw [hP]; exact hcallD_func (num_calls n _)) ?_
  rintro _ σ2 ⟨rfl, h⟩
  subst σ2
  refine hgo_sound 60 ?_
  simp -implicitDefEqProofs (maxSteps := 1000000) only [simpS, ↓condJ_true, ↓condJ_false, ↓reduceIte, Nat.reduceEqDiff, Nat.reduceLT, Nat.reduceLeDiff, reduceCtorEq, Nat.reduceAdd, Nat.reduceSub, bindG_none, addG_none, hgrpK_none, nestK_none, hgrpK_guarded, Option.map_none, beq_self_eq_true, bne_self_eq_false, Option.map_some, if_true, if_false, List.getD_cons_zero, List.getD_cons_succ, List.length_cons, List.length_nil, List.mem_cons, List.not_mem_nil, List.mem_append, List.nil_append, List.cons_append, List.append_nil, List.take_succ_cons, List.take_zero, List.drop_succ_cons, List.drop_zero, List.set_cons_zero, List.set_cons_succ, List.map_cons, List.map_nil, implies_true, forall_const, ne_eq]
  exact fpost_pure (σ0 := σ) (.inr rfl) (by rw [hnx]; exact Nat.le_refl _) hwf (Sub.refl σ) rfl trivial trivial ⟨rfl, rfl⟩

def insP (b : UInt8) : Bool := isLet b || isFig b
def isWord (s : ByteArray) : Bool := match s.data.toList with
  | [] => false
  | b :: bs => decide (s.size ≤ 64) && (isLet b && (b :: bs).all insP)

theorem runTo_all (p : UInt8 → Bool) : ∀ l : List UInt8, runTo p l ≤ l.length ∧ (runTo p l = l.length ↔ l.all p = true)
  | [] => by simp [runTo]
  | b :: l => by
    obtain ⟨h1, h2⟩ := runTo_all p l
    simp only [runTo, List.length_cons, List.all_cons]
    by_cases hb : p b = true
    · simp only [hb, if_true, Bool.true_and]
      exact ⟨by omega, by rw [← h2]; omega⟩
    · simp only [hb, Bool.false_eq_true, if_false]
      have hb' : p b = false := by simpa using hb
      simp [hb']

theorem runAt_zero (p : UInt8 → Bool) (s : ByteArray) : runAt p s 0 = (runTo p s.data.toList : Int) := by
  have : runFrom s 0 = 0 := by unfold runFrom; omega
  unfold runAt
  rw [this, List.drop_zero, Nat.zero_add]

theorem runAt_all (p : UInt8 → Bool) (s : ByteArray) : (runAt p s 0 == (s.size : Int)) = s.data.toList.all p := by
  rw [runAt_zero]
  have h := (runTo_all p s.data.toList).2
  have hl : s.data.toList.length = s.size := by simp
  rw [hl] at h
  cases ha : s.data.toList.all p
  · rw [ha] at h
    simp only [Bool.false_eq_true, iff_false] at h
    simp only [beq_eq_false_iff_ne, ne_eq]
    omega
  · have := h.2 ha
    simp only [beq_iff_eq]
    omega

theorem word_calls (s : ByteArray) (hs : s.size ≤ 140737488355328) (σ : St) : HCalls Tryd.prog 62 [.str s] σ (fun d σ' => d = .bool (isWord s) ∧ σ' = σ) := by
  refine hcalls_body (fn := Tryd.f62) rfl c62 (by simp [h62]) (by simp [h62, Tryd.f62]) ?_
  intro M hP hr hnt hnx hwf hlt
  simp only [h62, argEnv]
  have hlen : s.data.toList.length = s.size := by simp
  by_cases h0 : s = ⟨#[]⟩
  · subst h0
    have hd : decide ((⟨#[]⟩ : ByteArray) = ⟨#[]⟩) = true := by simp
    refine hgo_sound 60 ?_
    simp -implicitDefEqProofs (maxSteps := 1000000) only [simpS, ↓condJ_true, ↓condJ_false, ↓reduceIte, Nat.reduceEqDiff, Nat.reduceLT, Nat.reduceLeDiff, reduceCtorEq, Nat.reduceAdd, Nat.reduceSub, bindG_none, addG_none, hgrpK_none, nestK_none, hgrpK_guarded, Option.map_none, beq_self_eq_true, bne_self_eq_false, Option.map_some, if_true, if_false, List.getD_cons_zero, List.getD_cons_succ, List.length_cons, List.length_nil, List.mem_cons, List.not_mem_nil, List.mem_append, List.nil_append, List.cons_append, List.append_nil, List.take_succ_cons, List.take_zero, List.drop_succ_cons, List.drop_zero, List.set_cons_zero, List.set_cons_succ, List.map_cons, List.map_nil, implies_true, forall_const, ne_eq, hd]
    exact fpost_pure (σ0 := σ) (.inr rfl) (by rw [hnx]; exact Nat.le_refl _) hwf (Sub.refl σ) rfl trivial trivial ⟨rfl, rfl⟩
  have hd : decide (s = ⟨#[]⟩) = false := by simp [h0]
  cases hl : s.data.toList with
  | nil =>
    exfalso
    apply h0
    cases s with
    | mk a => cases a with
      | mk l => simp at hl; rw [hl]
  | cons b bs =>
  have hsz : 0 < s.size := by rw [← hlen, hl]; simp
  have hsz2 : (0 : Int) < (s.size : Int) := by omega
  have hb : ((s.data.getD 0 0).toNat : Int) = (b.toNat : Int) := by
    have := byte_at s 0 hsz
    rw [this]
    simp [hl]
  have hw : isWord s = (decide (s.size ≤ 64) && (isLet b && (b :: bs).all insP)) := by unfold isWord; rw [hl]
  by_cases h64 : (s.size : Int) ≤ 64
  · have hd64 : decide ((s.size : Int) ≤ 64) = true := by simp [h64]
    have hdn : decide (s.size ≤ 64) = true := by simp; omega
    rw [hw, hdn, Bool.true_and]
    refine hgo_sound 60 ?_
    simp -implicitDefEqProofs (maxSteps := 1000000) only [simpS, ↓condJ_true, ↓condJ_false, ↓reduceIte, Nat.reduceEqDiff, Nat.reduceLT, Nat.reduceLeDiff, reduceCtorEq, Nat.reduceAdd, Nat.reduceSub, bindG_none, addG_none, hgrpK_none, nestK_none, hgrpK_guarded, Option.map_none, beq_self_eq_true, bne_self_eq_false, Option.map_some, if_true, if_false, List.getD_cons_zero, List.getD_cons_succ, List.length_cons, List.length_nil, List.mem_cons, List.not_mem_nil, List.mem_append, List.nil_append, List.cons_append, List.append_nil, List.take_succ_cons, List.take_zero, List.drop_succ_cons, List.drop_zero, List.set_cons_zero, List.set_cons_succ, List.map_cons, List.map_nil, implies_true, forall_const, ne_eq, hd, hd64, hsz2, hb, Int.toNat_zero, Int.le_refl, Int.reduceToNat]
    refine hx_call (f := .fn 58) rfl (by rw [hP]; exact hcallD_func (letter_calls b _)) ?_
    rintro _ σ2 ⟨rfl, h⟩
    subst σ2
    cases hbl : isLet b
    · refine hgo_sound 60 ?_
      simp -implicitDefEqProofs (maxSteps := 1000000) only [simpS, ↓condJ_true, ↓condJ_false, ↓reduceIte, Nat.reduceEqDiff, Nat.reduceLT, Nat.reduceLeDiff, reduceCtorEq, Nat.reduceAdd, Nat.reduceSub, bindG_none, addG_none, hgrpK_none, nestK_none, hgrpK_guarded, Option.map_none, beq_self_eq_true, bne_self_eq_false, Option.map_some, if_true, if_false, List.getD_cons_zero, List.getD_cons_succ, List.length_cons, List.length_nil, List.mem_cons, List.not_mem_nil, List.mem_append, List.nil_append, List.cons_append, List.append_nil, List.take_succ_cons, List.take_zero, List.drop_succ_cons, List.drop_zero, List.set_cons_zero, List.set_cons_succ, List.map_cons, List.map_nil, implies_true, forall_const, ne_eq]
      exact fpost_pure (σ0 := σ) (.inr rfl) (by rw [hnx]; exact Nat.le_refl _) hwf (Sub.refl σ) rfl trivial trivial ⟨rfl, rfl⟩
    · refine hgo_sound 60 ?_
      simp -implicitDefEqProofs (maxSteps := 1000000) only [simpS, ↓condJ_true, ↓condJ_false, ↓reduceIte, Nat.reduceEqDiff, Nat.reduceLT, Nat.reduceLeDiff, reduceCtorEq, Nat.reduceAdd, Nat.reduceSub, bindG_none, addG_none, hgrpK_none, nestK_none, hgrpK_guarded, Option.map_none, beq_self_eq_true, bne_self_eq_false, Option.map_some, if_true, if_false, List.getD_cons_zero, List.getD_cons_succ, List.length_cons, List.length_nil, List.mem_cons, List.not_mem_nil, List.mem_append, List.nil_append, List.cons_append, List.append_nil, List.take_succ_cons, List.take_zero, List.drop_succ_cons, List.drop_zero, List.set_cons_zero, List.set_cons_succ, List.map_cons, List.map_nil, implies_true, forall_const, ne_eq]
      refine hx_call (f := .fn 46) rfl (by rw [hP]; exact hcallD_func (run_calls s hs 0 70 insP (fun b σ => inside_calls b σ) _)) ?_
      rintro _ σ2 ⟨rfl, h⟩
      subst σ2
      rw [← hl]
      refine hgo_sound 60 ?_
      simp -implicitDefEqProofs (maxSteps := 1000000) only [simpS, ↓condJ_true, ↓condJ_false, ↓reduceIte, Nat.reduceEqDiff, Nat.reduceLT, Nat.reduceLeDiff, reduceCtorEq, Nat.reduceAdd, Nat.reduceSub, bindG_none, addG_none, hgrpK_none, nestK_none, hgrpK_guarded, Option.map_none, beq_self_eq_true, bne_self_eq_false, Option.map_some, if_true, if_false, List.getD_cons_zero, List.getD_cons_succ, List.length_cons, List.length_nil, List.mem_cons, List.not_mem_nil, List.mem_append, List.nil_append, List.cons_append, List.append_nil, List.take_succ_cons, List.take_zero, List.drop_succ_cons, List.drop_zero, List.set_cons_zero, List.set_cons_succ, List.map_cons, List.map_nil, implies_true, forall_const, ne_eq, runAt_all]
      exact fpost_pure (σ0 := σ) (.inr rfl) (by rw [hnx]; exact Nat.le_refl _) hwf (Sub.refl σ) rfl trivial trivial ⟨rfl, rfl⟩
  · have hd64 : decide ((s.size : Int) ≤ 64) = false := by simp; omega
    have hdn : decide (s.size ≤ 64) = false := by simp; omega
    rw [hw, hdn, Bool.false_and]
    refine hgo_sound 60 ?_
    simp -implicitDefEqProofs (maxSteps := 1000000) only [simpS, ↓condJ_true, ↓condJ_false, ↓reduceIte, Nat.reduceEqDiff, Nat.reduceLT, Nat.reduceLeDiff, reduceCtorEq, Nat.reduceAdd, Nat.reduceSub, bindG_none, addG_none, hgrpK_none, nestK_none, hgrpK_guarded, Option.map_none, beq_self_eq_true, bne_self_eq_false, Option.map_some, if_true, if_false, List.getD_cons_zero, List.getD_cons_succ, List.length_cons, List.length_nil, List.mem_cons, List.not_mem_nil, List.mem_append, List.nil_append, List.cons_append, List.append_nil, List.take_succ_cons, List.take_zero, List.drop_succ_cons, List.drop_zero, List.set_cons_zero, List.set_cons_succ, List.map_cons, List.map_nil, implies_true, forall_const, ne_eq, hd, hd64, hsz2, hb, Int.toNat_zero, Int.le_refl, Int.reduceToNat]
    exact fpost_pure (σ0 := σ) (.inr rfl) (by rw [hnx]; exact Nat.le_refl _) hwf (Sub.refl σ) rfl trivial trivial ⟨rfl, rfl⟩

end Go.Hl
