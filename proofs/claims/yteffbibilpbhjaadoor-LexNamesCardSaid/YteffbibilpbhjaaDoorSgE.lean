/-
  Layer 5: names and numbers.
-/
import Derived.Test.YteffbibilpbhjaaDoorSgD
set_option linter.unusedSectionVars false
set_option linter.unusedVariables false
set_option linter.unusedSimpArgs false
set_option maxRecDepth 100000
namespace Go.Hl
open Go Go.Proofs

def nameE (s : ByteArray) : Int := if isWord s && !isKw s then 0 else 8

theorem name_calls (s : ByteArray) (hs : s.size ≤ 140737488355328) (σ : St) (hg : GK σ) : HCalls Tryd.prog 14 [.str s] σ (fun d σ' => d = erD (nameE s) ∧ σ' = σ) := by
  refine hcalls_body (fn := Tryd.f14) rfl c14 (by simp [h14]) (by simp [h14, Tryd.f14]) ?_
  intro M hP hr hnt hnx hwf hlt
  simp only [h14, argEnv]
  unfold nameE
  refine hgo_sound 60 ?_
  simp -implicitDefEqProofs (maxSteps := 1000000) only [simpS, ↓condJ_true, ↓condJ_false, ↓reduceIte, Nat.reduceEqDiff, Nat.reduceLT, Nat.reduceLeDiff, reduceCtorEq, Nat.reduceAdd, Nat.reduceSub, bindG_none, addG_none, hgrpK_none, nestK_none, hgrpK_guarded, Option.map_none, beq_self_eq_true, bne_self_eq_false, Option.map_some, if_true, if_false, List.getD_cons_zero, List.getD_cons_succ, List.length_cons, List.length_nil, List.mem_cons, List.not_mem_nil, List.mem_append, List.nil_append, List.cons_append, List.append_nil, List.take_succ_cons, List.take_zero, List.drop_succ_cons, List.drop_zero, List.set_cons_zero, List.set_cons_succ, List.map_cons, List.map_nil, implies_true, forall_const, ne_eq]
  refine hx_call (f := .fn 27) rfl (by rw [hP]; exact hcallD_func (word_calls s hs _)) ?_
  rintro _ σ2 ⟨rfl, h⟩
  subst σ2
  cases hw : isWord s
  · refine hgo_sound 60 ?_
    simp -implicitDefEqProofs (maxSteps := 1000000) only [simpS, ↓condJ_true, ↓condJ_false, ↓reduceIte, Nat.reduceEqDiff, Nat.reduceLT, Nat.reduceLeDiff, reduceCtorEq, Nat.reduceAdd, Nat.reduceSub, bindG_none, addG_none, hgrpK_none, nestK_none, hgrpK_guarded, Option.map_none, beq_self_eq_true, bne_self_eq_false, Option.map_some, if_true, if_false, List.getD_cons_zero, List.getD_cons_succ, List.length_cons, List.length_nil, List.mem_cons, List.not_mem_nil, List.mem_append, List.nil_append, List.cons_append, List.append_nil, List.take_succ_cons, List.take_zero, List.drop_succ_cons, List.drop_zero, List.set_cons_zero, List.set_cons_succ, List.map_cons, List.map_nil, implies_true, forall_const, ne_eq]
    exact fpost_pure (σ0 := σ) (.inr rfl) (by rw [hnx]; exact Nat.le_refl _) hwf (Sub.refl σ) rfl trivial trivial ⟨rfl, rfl⟩
  · refine hgo_sound 60 ?_
    simp -implicitDefEqProofs (maxSteps := 1000000) only [simpS, ↓condJ_true, ↓condJ_false, ↓reduceIte, Nat.reduceEqDiff, Nat.reduceLT, Nat.reduceLeDiff, reduceCtorEq, Nat.reduceAdd, Nat.reduceSub, bindG_none, addG_none, hgrpK_none, nestK_none, hgrpK_guarded, Option.map_none, beq_self_eq_true, bne_self_eq_false, Option.map_some, if_true, if_false, List.getD_cons_zero, List.getD_cons_succ, List.length_cons, List.length_nil, List.mem_cons, List.not_mem_nil, List.mem_append, List.nil_append, List.cons_append, List.append_nil, List.take_succ_cons, List.take_zero, List.drop_succ_cons, List.drop_zero, List.set_cons_zero, List.set_cons_succ, List.map_cons, List.map_nil, implies_true, forall_const, ne_eq]
    refine hx_call (f := .fn 28) rfl (by rw [hP]; exact hcallD_func (keyword_calls s _ hg)) ?_
    rintro _ σ2 ⟨rfl, h⟩
    subst σ2
    cases hk : isKw s
    · refine hgo_sound 60 ?_
      simp -implicitDefEqProofs (maxSteps := 1000000) only [simpS, ↓condJ_true, ↓condJ_false, ↓reduceIte, Nat.reduceEqDiff, Nat.reduceLT, Nat.reduceLeDiff, reduceCtorEq, Nat.reduceAdd, Nat.reduceSub, bindG_none, addG_none, hgrpK_none, nestK_none, hgrpK_guarded, Option.map_none, beq_self_eq_true, bne_self_eq_false, Option.map_some, if_true, if_false, List.getD_cons_zero, List.getD_cons_succ, List.length_cons, List.length_nil, List.mem_cons, List.not_mem_nil, List.mem_append, List.nil_append, List.cons_append, List.append_nil, List.take_succ_cons, List.take_zero, List.drop_succ_cons, List.drop_zero, List.set_cons_zero, List.set_cons_succ, List.map_cons, List.map_nil, implies_true, forall_const, ne_eq]
      exact fpost_pure (σ0 := σ) (.inr rfl) (by rw [hnx]; exact Nat.le_refl _) hwf (Sub.refl σ) rfl trivial trivial ⟨rfl, rfl⟩
    · refine hgo_sound 60 ?_
      simp -implicitDefEqProofs (maxSteps := 1000000) only [simpS, ↓condJ_true, ↓condJ_false, ↓reduceIte, Nat.reduceEqDiff, Nat.reduceLT, Nat.reduceLeDiff, reduceCtorEq, Nat.reduceAdd, Nat.reduceSub, bindG_none, addG_none, hgrpK_none, nestK_none, hgrpK_guarded, Option.map_none, beq_self_eq_true, bne_self_eq_false, Option.map_some, if_true, if_false, List.getD_cons_zero, List.getD_cons_succ, List.length_cons, List.length_nil, List.mem_cons, List.not_mem_nil, List.mem_append, List.nil_append, List.cons_append, List.append_nil, List.take_succ_cons, List.take_zero, List.drop_succ_cons, List.drop_zero, List.set_cons_zero, List.set_cons_succ, List.map_cons, List.map_nil, implies_true, forall_const, ne_eq]
      exact fpost_pure (σ0 := σ) (.inr rfl) (by rw [hnx]; exact Nat.le_refl _) hwf (Sub.refl σ) rfl trivial trivial ⟨rfl, rfl⟩

theorem rname_calls (s : ByteArray) (hs : s.size ≤ 140737488355328) (σ : St) : HCalls Tryd.prog 13 [.str s] σ (fun d σ' => d = .bool (isWord s && !isKw s) ∧ σ' = σ) := by
  refine hcalls_body (fn := Tryd.f13) rfl c13 (by simp [h13]) (by simp [h13, Tryd.f13]) ?_
  intro M hP hr hnt hnx hwf hlt
  simp only [h13, argEnv]
  refine hgo_sound 60 ?_
  simp -implicitDefEqProofs (maxSteps := 1000000) only [simpS, ↓condJ_true, ↓condJ_false, ↓reduceIte, Nat.reduceEqDiff, Nat.reduceLT, Nat.reduceLeDiff, reduceCtorEq, Nat.reduceAdd, Nat.reduceSub, bindG_none, addG_none, hgrpK_none, nestK_none, hgrpK_guarded, Option.map_none, beq_self_eq_true, bne_self_eq_false, Option.map_some, if_true, if_false, List.getD_cons_zero, List.getD_cons_succ, List.length_cons, List.length_nil, List.mem_cons, List.not_mem_nil, List.mem_append, List.nil_append, List.cons_append, List.append_nil, List.take_succ_cons, List.take_zero, List.drop_succ_cons, List.drop_zero, List.set_cons_zero, List.set_cons_succ, List.map_cons, List.map_nil, implies_true, forall_const, ne_eq]
  refine hx_call (f := .fn 25) rfl (by rw [hP]; exact hcallD_func (rword_calls s hs _)) ?_
  rintro _ σ2 ⟨rfl, h⟩
  subst σ2
  cases hw : isWord s
  · refine hgo_sound 60 ?_
    simp -implicitDefEqProofs (maxSteps := 1000000) only [simpS, ↓condJ_true, ↓condJ_false, ↓reduceIte, Nat.reduceEqDiff, Nat.reduceLT, Nat.reduceLeDiff, reduceCtorEq, Nat.reduceAdd, Nat.reduceSub, bindG_none, addG_none, hgrpK_none, nestK_none, hgrpK_guarded, Option.map_none, beq_self_eq_true, bne_self_eq_false, Option.map_some, if_true, if_false, List.getD_cons_zero, List.getD_cons_succ, List.length_cons, List.length_nil, List.mem_cons, List.not_mem_nil, List.mem_append, List.nil_append, List.cons_append, List.append_nil, List.take_succ_cons, List.take_zero, List.drop_succ_cons, List.drop_zero, List.set_cons_zero, List.set_cons_succ, List.map_cons, List.map_nil, implies_true, forall_const, ne_eq]
    exact fpost_pure (σ0 := σ) (.inr rfl) (by rw [hnx]; exact Nat.le_refl _) hwf (Sub.refl σ) rfl trivial trivial ⟨rfl, rfl⟩
  · refine hgo_sound 60 ?_
    simp -implicitDefEqProofs (maxSteps := 1000000) only [simpS, ↓condJ_true, ↓condJ_false, ↓reduceIte, Nat.reduceEqDiff, Nat.reduceLT, Nat.reduceLeDiff, reduceCtorEq, Nat.reduceAdd, Nat.reduceSub, bindG_none, addG_none, hgrpK_none, nestK_none, hgrpK_guarded, Option.map_none, beq_self_eq_true, bne_self_eq_false, Option.map_some, if_true, if_false, List.getD_cons_zero, List.getD_cons_succ, List.length_cons, List.length_nil, List.mem_cons, List.not_mem_nil, List.mem_append, List.nil_append, List.cons_append, List.append_nil, List.take_succ_cons, List.take_zero, List.drop_succ_cons, List.drop_zero, List.set_cons_zero, List.set_cons_succ, List.map_cons, List.map_nil, implies_true, forall_const, ne_eq]
    refine hx_call (f := .fn 26) rfl (by rw [hP]; exact hcallD_func (rkeyword_calls s _)) ?_
    rintro _ σ2 ⟨rfl, h⟩
    subst σ2
    refine hgo_sound 60 ?_
    simp -implicitDefEqProofs (maxSteps := 1000000) only [simpS, ↓condJ_true, ↓condJ_false, ↓reduceIte, Nat.reduceEqDiff, Nat.reduceLT, Nat.reduceLeDiff, reduceCtorEq, Nat.reduceAdd, Nat.reduceSub, bindG_none, addG_none, hgrpK_none, nestK_none, hgrpK_guarded, Option.map_none, beq_self_eq_true, bne_self_eq_false, Option.map_some, if_true, if_false, List.getD_cons_zero, List.getD_cons_succ, List.length_cons, List.length_nil, List.mem_cons, List.not_mem_nil, List.mem_append, List.nil_append, List.cons_append, List.append_nil, List.take_succ_cons, List.take_zero, List.drop_succ_cons, List.drop_zero, List.set_cons_zero, List.set_cons_succ, List.map_cons, List.map_nil, implies_true, forall_const, ne_eq]
    exact fpost_pure (σ0 := σ) (.inr rfl) (by rw [hnx]; exact Nat.le_refl _) hwf (Sub.refl σ) rfl trivial trivial ⟨rfl, rfl⟩

def numV (s : ByteArray) : Int := match rNumD s with | some n => n | none => 0
def numE (s : ByteArray) : Int := match rNumD s with | some n => 0 | none => 2

theorem arr_eq (l : List UInt8) (s : ByteArray) : (⟨l.toArray⟩ : ByteArray) = s ↔ l = s.data.toList := by
  constructor
  · rintro rfl
    rfl
  · rintro rfl
    cases s
    simp

theorem num_none {s : ByteArray} (h : ∀ n : Nat, Lib.atoiAll s.data.toList = .ok (n : Int) → s.data.toList.length ≤ 10 → n ≤ 2147483647 → Lib.itoa (n : Int) = s.data.toList → False) : rNumD s = none := by
  cases hn : rNumD s with
  | none => rfl
  | some n =>
    obtain ⟨h1, h2, h3, h4⟩ := num_is hn
    exact (h n h1 h2 h3 h4).elim

theorem number_calls (s : ByteArray) (hs : s.size ≤ 140737488355328) (σ : St) (hg : GK σ) : HCalls Tryd.prog 57 [.str s] σ (fun d σ' => d = .tuple [.int .i64 (numV s), erD (numE s)] ∧ σ' = σ) := by
  refine hcalls_body (fn := Tryd.f57) rfl c57 (by simp [h57]) (by simp [h57, Tryd.f57]) ?_
  intro M hP hr hnt hnx hwf hlt
  simp only [h57, argEnv]
  have hlen : s.data.toList.length = s.size := by simp
  refine hgo_sound 60 ?_
  simp -implicitDefEqProofs (maxSteps := 1000000) only [simpS, ↓condJ_true, ↓condJ_false, ↓reduceIte, Nat.reduceEqDiff, Nat.reduceLT, Nat.reduceLeDiff, reduceCtorEq, Nat.reduceAdd, Nat.reduceSub, bindG_none, addG_none, hgrpK_none, nestK_none, hgrpK_guarded, Option.map_none, beq_self_eq_true, bne_self_eq_false, Option.map_some, if_true, if_false, List.getD_cons_zero, List.getD_cons_succ, List.length_cons, List.length_nil, List.mem_cons, List.not_mem_nil, List.mem_append, List.nil_append, List.cons_append, List.append_nil, List.take_succ_cons, List.take_zero, List.drop_succ_cons, List.drop_zero, List.set_cons_zero, List.set_cons_succ, List.map_cons, List.map_nil, implies_true, forall_const, ne_eq]
  refine hx_call (f := .fn 64) rfl (by rw [hP]; exact hcallD_func (atoi_calls s hs _ hg)) ?_
  rintro _ σ2 ⟨rfl, h⟩
  subst σ2
  unfold atoiD
  cases ha : Lib.atoiAll s.data.toList with
  | range =>
    have hno : rNumD s = none := num_none fun n e1 e2 e3 e4 => by
      rw [ha] at e1; cases e1
    simp only [numV, numE, hno]
    refine hgo_sound 60 ?_
    simp -implicitDefEqProofs (maxSteps := 1000000) only [simpS, ↓condJ_true, ↓condJ_false, ↓reduceIte, Nat.reduceEqDiff, Nat.reduceLT, Nat.reduceLeDiff, reduceCtorEq, Nat.reduceAdd, Nat.reduceSub, bindG_none, addG_none, hgrpK_none, nestK_none, hgrpK_guarded, Option.map_none, beq_self_eq_true, bne_self_eq_false, Option.map_some, if_true, if_false, List.getD_cons_zero, List.getD_cons_succ, List.length_cons, List.length_nil, List.mem_cons, List.not_mem_nil, List.mem_append, List.nil_append, List.cons_append, List.append_nil, List.take_succ_cons, List.take_zero, List.drop_succ_cons, List.drop_zero, List.set_cons_zero, List.set_cons_succ, List.map_cons, List.map_nil, implies_true, forall_const, ne_eq, erD]
    exact fpost_pure (σ0 := σ) (.inr rfl) (by rw [hnx]; exact Nat.le_refl _) hwf (Sub.refl σ) rfl trivial ⟨trivial, trivial, trivial⟩ ⟨rfl, rfl⟩
  | ok v =>
    by_cases q1 : (s.size : Int) > 10
    · have d1 : decide ((s.size : Int) > 10) = true := by simp [q1]
      have hno : rNumD s = none := num_none fun n e1 e2 e3 e4 => by
        omega
      simp only [numV, numE, hno]
      refine hgo_sound 60 ?_
      simp -implicitDefEqProofs (maxSteps := 1000000) only [simpS, ↓condJ_true, ↓condJ_false, ↓reduceIte, Nat.reduceEqDiff, Nat.reduceLT, Nat.reduceLeDiff, reduceCtorEq, Nat.reduceAdd, Nat.reduceSub, bindG_none, addG_none, hgrpK_none, nestK_none, hgrpK_guarded, Option.map_none, beq_self_eq_true, bne_self_eq_false, Option.map_some, if_true, if_false, List.getD_cons_zero, List.getD_cons_succ, List.length_cons, List.length_nil, List.mem_cons, List.not_mem_nil, List.mem_append, List.nil_append, List.cons_append, List.append_nil, List.take_succ_cons, List.take_zero, List.drop_succ_cons, List.drop_zero, List.set_cons_zero, List.set_cons_succ, List.map_cons, List.map_nil, implies_true, forall_const, ne_eq, erD, d1]
      exact fpost_pure (σ0 := σ) (.inr rfl) (by rw [hnx]; exact Nat.le_refl _) hwf (Sub.refl σ) rfl trivial ⟨trivial, trivial, trivial⟩ ⟨rfl, rfl⟩
    have d1 : decide ((s.size : Int) > 10) = false := by simp; omega
    by_cases q2 : v < 0
    · have d2 : decide (v < 0) = true := by simp [q2]
      have hno : rNumD s = none := num_none fun n e1 e2 e3 e4 => by
        rw [ha] at e1; injection e1 with e1; omega
      simp only [numV, numE, hno]
      refine hgo_sound 60 ?_
      simp -implicitDefEqProofs (maxSteps := 1000000) only [simpS, ↓condJ_true, ↓condJ_false, ↓reduceIte, Nat.reduceEqDiff, Nat.reduceLT, Nat.reduceLeDiff, reduceCtorEq, Nat.reduceAdd, Nat.reduceSub, bindG_none, addG_none, hgrpK_none, nestK_none, hgrpK_guarded, Option.map_none, beq_self_eq_true, bne_self_eq_false, Option.map_some, if_true, if_false, List.getD_cons_zero, List.getD_cons_succ, List.length_cons, List.length_nil, List.mem_cons, List.not_mem_nil, List.mem_append, List.nil_append, List.cons_append, List.append_nil, List.take_succ_cons, List.take_zero, List.drop_succ_cons, List.drop_zero, List.set_cons_zero, List.set_cons_succ, List.map_cons, List.map_nil, implies_true, forall_const, ne_eq, erD, d1, d2]
      exact fpost_pure (σ0 := σ) (.inr rfl) (by rw [hnx]; exact Nat.le_refl _) hwf (Sub.refl σ) rfl trivial ⟨trivial, trivial, trivial⟩ ⟨rfl, rfl⟩
    have d2 : decide (v < 0) = false := by simp; omega
    by_cases q3 : v > 2147483647
    · have d3 : decide (v > 2147483647) = true := by simp [q3]
      have hno : rNumD s = none := num_none fun n e1 e2 e3 e4 => by
        rw [ha] at e1; injection e1 with e1; omega
      simp only [numV, numE, hno]
      refine hgo_sound 60 ?_
      simp -implicitDefEqProofs (maxSteps := 1000000) only [simpS, ↓condJ_true, ↓condJ_false, ↓reduceIte, Nat.reduceEqDiff, Nat.reduceLT, Nat.reduceLeDiff, reduceCtorEq, Nat.reduceAdd, Nat.reduceSub, bindG_none, addG_none, hgrpK_none, nestK_none, hgrpK_guarded, Option.map_none, beq_self_eq_true, bne_self_eq_false, Option.map_some, if_true, if_false, List.getD_cons_zero, List.getD_cons_succ, List.length_cons, List.length_nil, List.mem_cons, List.not_mem_nil, List.mem_append, List.nil_append, List.cons_append, List.append_nil, List.take_succ_cons, List.take_zero, List.drop_succ_cons, List.drop_zero, List.set_cons_zero, List.set_cons_succ, List.map_cons, List.map_nil, implies_true, forall_const, ne_eq, erD, d1, d2, d3]
      exact fpost_pure (σ0 := σ) (.inr rfl) (by rw [hnx]; exact Nat.le_refl _) hwf (Sub.refl σ) rfl trivial ⟨trivial, trivial, trivial⟩ ⟨rfl, rfl⟩
    have d3 : decide (v > 2147483647) = false := by simp; omega
    refine hgo_sound 60 ?_
    simp -implicitDefEqProofs (maxSteps := 1000000) only [simpS, ↓condJ_true, ↓condJ_false, ↓reduceIte, Nat.reduceEqDiff, Nat.reduceLT, Nat.reduceLeDiff, reduceCtorEq, Nat.reduceAdd, Nat.reduceSub, bindG_none, addG_none, hgrpK_none, nestK_none, hgrpK_guarded, Option.map_none, beq_self_eq_true, bne_self_eq_false, Option.map_some, if_true, if_false, List.getD_cons_zero, List.getD_cons_succ, List.length_cons, List.length_nil, List.mem_cons, List.not_mem_nil, List.mem_append, List.nil_append, List.cons_append, List.append_nil, List.take_succ_cons, List.take_zero, List.drop_succ_cons, List.drop_zero, List.set_cons_zero, List.set_cons_succ, List.map_cons, List.map_nil, implies_true, forall_const, ne_eq, d1, d2, d3]
    refine hx_call (f := .fn 65) rfl (by rw [hP]; exact hcallD_func (itoa_calls v (by omega) (by omega) _ hg)) ?_
    rintro _ σ2 ⟨rfl, h⟩
    subst σ2
    by_cases q4 : (⟨(Lib.itoa v).toArray⟩ : ByteArray) = s
    · have d4 : decide ((⟨(Lib.itoa v).toArray⟩ : ByteArray) = s) = true := by simp [q4]
      have hy := is_num (s := s) (v := v) (by omega) (by omega) (by omega) ((arr_eq _ _).1 q4)
      have hv : ((v.toNat : Nat) : Int) = v := by omega
      simp only [numV, numE, hy, hv]
      refine hgo_sound 60 ?_
      simp -implicitDefEqProofs (maxSteps := 1000000) only [simpS, ↓condJ_true, ↓condJ_false, ↓reduceIte, Nat.reduceEqDiff, Nat.reduceLT, Nat.reduceLeDiff, reduceCtorEq, Nat.reduceAdd, Nat.reduceSub, bindG_none, addG_none, hgrpK_none, nestK_none, hgrpK_guarded, Option.map_none, beq_self_eq_true, bne_self_eq_false, Option.map_some, if_true, if_false, List.getD_cons_zero, List.getD_cons_succ, List.length_cons, List.length_nil, List.mem_cons, List.not_mem_nil, List.mem_append, List.nil_append, List.cons_append, List.append_nil, List.take_succ_cons, List.take_zero, List.drop_succ_cons, List.drop_zero, List.set_cons_zero, List.set_cons_succ, List.map_cons, List.map_nil, implies_true, forall_const, ne_eq, d4, erD]
      exact fpost_pure (σ0 := σ) (.inr rfl) (by rw [hnx]; exact Nat.le_refl _) hwf (Sub.refl σ) rfl trivial ⟨trivial, trivial, trivial⟩ ⟨rfl, rfl⟩
    · have d4 : decide ((⟨(Lib.itoa v).toArray⟩ : ByteArray) = s) = false := by simp [q4]
      have hno : rNumD s = none := num_none fun n e1 e2 e3 e4 => by
        exact q4 ((arr_eq _ _).2 (by rw [ha] at e1; injection e1 with e1; rw [e1]; exact e4))
      simp only [numV, numE, hno]
      refine hgo_sound 60 ?_
      simp -implicitDefEqProofs (maxSteps := 1000000) only [simpS, ↓condJ_true, ↓condJ_false, ↓reduceIte, Nat.reduceEqDiff, Nat.reduceLT, Nat.reduceLeDiff, reduceCtorEq, Nat.reduceAdd, Nat.reduceSub, bindG_none, addG_none, hgrpK_none, nestK_none, hgrpK_guarded, Option.map_none, beq_self_eq_true, bne_self_eq_false, Option.map_some, if_true, if_false, List.getD_cons_zero, List.getD_cons_succ, List.length_cons, List.length_nil, List.mem_cons, List.not_mem_nil, List.mem_append, List.nil_append, List.cons_append, List.append_nil, List.take_succ_cons, List.take_zero, List.drop_succ_cons, List.drop_zero, List.set_cons_zero, List.set_cons_succ, List.map_cons, List.map_nil, implies_true, forall_const, ne_eq, erD, d4]
      exact fpost_pure (σ0 := σ) (.inr rfl) (by rw [hnx]; exact Nat.le_refl _) hwf (Sub.refl σ) rfl trivial ⟨trivial, trivial, trivial⟩ ⟨rfl, rfl⟩
  | _ =>
    have hno : rNumD s = none := num_none fun n e1 e2 e3 e4 => by
      rw [ha] at e1; cases e1
    simp only [numV, numE, hno]
    refine hgo_sound 60 ?_
    simp -implicitDefEqProofs (maxSteps := 1000000) only [simpS, ↓condJ_true, ↓condJ_false, ↓reduceIte, Nat.reduceEqDiff, Nat.reduceLT, Nat.reduceLeDiff, reduceCtorEq, Nat.reduceAdd, Nat.reduceSub, bindG_none, addG_none, hgrpK_none, nestK_none, hgrpK_guarded, Option.map_none, beq_self_eq_true, bne_self_eq_false, Option.map_some, if_true, if_false, List.getD_cons_zero, List.getD_cons_succ, List.length_cons, List.length_nil, List.mem_cons, List.not_mem_nil, List.mem_append, List.nil_append, List.cons_append, List.append_nil, List.take_succ_cons, List.take_zero, List.drop_succ_cons, List.drop_zero, List.set_cons_zero, List.set_cons_succ, List.map_cons, List.map_nil, implies_true, forall_const, ne_eq, erD]
    exact fpost_pure (σ0 := σ) (.inr rfl) (by rw [hnx]; exact Nat.le_refl _) hwf (Sub.refl σ) rfl trivial ⟨trivial, trivial, trivial⟩ ⟨rfl, rfl⟩

structure RnuS where
  j : Nat
  n : Nat

theorem headD_at (s : ByteArray) (h : 0 < s.size) : ((s.data.getD 0 0).toNat : Int) = ((s.data.toList.headD 0).toNat : Int) := by
  have key : ∀ (l : List UInt8) (h : 0 < l.length), l[0] = l.headD 0 := fun l h => by
    cases l with
    | nil => simp at h
    | cons b bs => rfl
  rw [byte_at s 0 h, key]

def numB (s : ByteArray) : Bool := match rNumD s with | some n => true | none => false

theorem rnumber_calls (s : ByteArray) (hs : s.size ≤ 140737488355328) (σ : St) : HCalls Tryd.prog 35 [.str s] σ (fun d σ' => d = .tuple [.int .i64 (numV s), .bool (numB s)] ∧ σ' = σ) := by
  refine hcalls_body (fn := Tryd.f35) rfl c35 (by simp [h35]) (by simp [h35, Tryd.f35]) ?_
  intro M hP hr hnt hnx hwf hlt
  simp only [h35, argEnv]
  have hlen : s.data.toList.length = s.size := by simp
  by_cases q1 : s.size = 0
  · have d1 : ((s.size : Int) == 0) = true := by simp [q1]
    have hno : rNumD s = none := by unfold rNumD; simp only; rw [if_pos (by omega)]
    simp only [numV, numB, hno]
    refine hgo_sound 60 ?_
    simp -implicitDefEqProofs (maxSteps := 1000000) only [simpS, ↓condJ_true, ↓condJ_false, ↓reduceIte, Nat.reduceEqDiff, Nat.reduceLT, Nat.reduceLeDiff, reduceCtorEq, Nat.reduceAdd, Nat.reduceSub, bindG_none, addG_none, hgrpK_none, nestK_none, hgrpK_guarded, Option.map_none, beq_self_eq_true, bne_self_eq_false, Option.map_some, if_true, if_false, List.getD_cons_zero, List.getD_cons_succ, List.length_cons, List.length_nil, List.mem_cons, List.not_mem_nil, List.mem_append, List.nil_append, List.cons_append, List.append_nil, List.take_succ_cons, List.take_zero, List.drop_succ_cons, List.drop_zero, List.set_cons_zero, List.set_cons_succ, List.map_cons, List.map_nil, implies_true, forall_const, ne_eq, d1]
    exact fpost_pure (σ0 := σ) (.inr rfl) (by rw [hnx]; exact Nat.le_refl _) hwf (Sub.refl σ) rfl trivial ⟨trivial, trivial, trivial⟩ ⟨rfl, rfl⟩
  have d1 : ((s.size : Int) == 0) = false := by simp only [beq_eq_false_iff_ne, ne_eq]; omega
  by_cases q2 : s.size > 10
  · have d2 : decide ((s.size : Int) > 10) = true := by simp; omega
    have hno : rNumD s = none := by unfold rNumD; simp only; rw [if_pos (.inr (.inl (by omega)))]
    simp only [numV, numB, hno]
    refine hgo_sound 60 ?_
    simp -implicitDefEqProofs (maxSteps := 1000000) only [simpS, ↓condJ_true, ↓condJ_false, ↓reduceIte, Nat.reduceEqDiff, Nat.reduceLT, Nat.reduceLeDiff, reduceCtorEq, Nat.reduceAdd, Nat.reduceSub, bindG_none, addG_none, hgrpK_none, nestK_none, hgrpK_guarded, Option.map_none, beq_self_eq_true, bne_self_eq_false, Option.map_some, if_true, if_false, List.getD_cons_zero, List.getD_cons_succ, List.length_cons, List.length_nil, List.mem_cons, List.not_mem_nil, List.mem_append, List.nil_append, List.cons_append, List.append_nil, List.take_succ_cons, List.take_zero, List.drop_succ_cons, List.drop_zero, List.set_cons_zero, List.set_cons_succ, List.map_cons, List.map_nil, implies_true, forall_const, ne_eq, d1, d2]
    exact fpost_pure (σ0 := σ) (.inr rfl) (by rw [hnx]; exact Nat.le_refl _) hwf (Sub.refl σ) rfl trivial ⟨trivial, trivial, trivial⟩ ⟨rfl, rfl⟩
  have d2 : decide ((s.size : Int) > 10) = false := by simp; omega
  have hpos : (0 : Int) < (s.size : Int) := by omega
  have hh := headD_at s (by omega)
  have hmain : (s.size > 1 ∧ s.data.toList.headD 0 = 48) ∨ ¬ (s.size > 1 ∧ s.data.toList.headD 0 = 48) := Classical.em _
  rcases hmain with q3 | q3
  · have d3 : decide ((s.size : Int) > 1) = true := by simp; omega
    have d4 : ((s.data.getD 0 0).toNat : Int) == 48 := by rw [hh, q3.2]; rfl
    have d4 : (((s.data.getD 0 0).toNat : Int) == 48) = true := d4
    have hno : rNumD s = none := by unfold rNumD; simp only; rw [if_pos (.inr (.inr ⟨by omega, q3.2⟩))]
    simp only [numV, numB, hno]
    refine hgo_sound 60 ?_
    simp -implicitDefEqProofs (maxSteps := 1000000) only [simpS, ↓condJ_true, ↓condJ_false, ↓reduceIte, Nat.reduceEqDiff, Nat.reduceLT, Nat.reduceLeDiff, reduceCtorEq, Nat.reduceAdd, Nat.reduceSub, bindG_none, addG_none, hgrpK_none, nestK_none, hgrpK_guarded, Option.map_none, beq_self_eq_true, bne_self_eq_false, Option.map_some, if_true, if_false, List.getD_cons_zero, List.getD_cons_succ, List.length_cons, List.length_nil, List.mem_cons, List.not_mem_nil, List.mem_append, List.nil_append, List.cons_append, List.append_nil, List.take_succ_cons, List.take_zero, List.drop_succ_cons, List.drop_zero, List.set_cons_zero, List.set_cons_succ, List.map_cons, List.map_nil, implies_true, forall_const, ne_eq, d1, d2, d3, d4, hpos, Int.toNat_zero, Int.le_refl, Int.reduceToNat]
    exact fpost_pure (σ0 := σ) (.inr rfl) (by rw [hnx]; exact Nat.le_refl _) hwf (Sub.refl σ) rfl trivial ⟨trivial, trivial, trivial⟩ ⟨rfl, rfl⟩
  have hgo : rNumD s = match rNumF 0 s.data.toList with
      | none => none
      | some n => if n > 2147483647 then none else some n := by
    unfold rNumD
    simp only
    rw [if_neg ?_]
    · rfl
    · rintro (e | e | e)
      · omega
      · omega
      · exact q3 ⟨by omega, e.2⟩
  have loop : ∀ (e : Env), look e 0 = .str s → look e 4 = .int .i64 0 → look e 5 = .int .i64 0 → allE σ.next e [(0, .str s), (4, .int .i64 0), (5, .int .i64 0)] := fun e e0 e4 e5 => ⟨⟨e0.symm, trivial⟩, ⟨e4.symm, trivial⟩, ⟨e5.symm, trivial⟩, trivial⟩
  cases d3 : decide ((s.size : Int) > 1)
  · refine hgo_sound 60 ?_
    simp -implicitDefEqProofs (maxSteps := 1000000) only [simpS, ↓condJ_true, ↓condJ_false, ↓reduceIte, Nat.reduceEqDiff, Nat.reduceLT, Nat.reduceLeDiff, reduceCtorEq, Nat.reduceAdd, Nat.reduceSub, bindG_none, addG_none, hgrpK_none, nestK_none, hgrpK_guarded, Option.map_none, beq_self_eq_true, bne_self_eq_false, Option.map_some, if_true, if_false, List.getD_cons_zero, List.getD_cons_succ, List.length_cons, List.length_nil, List.mem_cons, List.not_mem_nil, List.mem_append, List.nil_append, List.cons_append, List.append_nil, List.take_succ_cons, List.take_zero, List.drop_succ_cons, List.drop_zero, List.set_cons_zero, List.set_cons_succ, List.map_cons, List.map_nil, implies_true, forall_const, ne_eq, d1, d2, d3, hpos, Int.toNat_zero, Int.le_refl, Int.reduceToNat]
    refine hx_know_code fun hw hl1 hn1 => ?_
    refine hx_loop (S := RnuS) (fun t => [(0, .str s), (4, .int .i64 t.n), (5, .int .i64 t.j)]) (fun _ => σ)
      (fun t => t.j ≤ s.size ∧ rNumF t.n (s.data.toList.drop t.j) = rNumF 0 s.data.toList ∧ t.n < 10 ^ t.j) (fun t => s.size - t.j) ⟨0, 0⟩ ⟨Nat.zero_le _, rfl, by simp⟩ (fun _ _ h => by rw [hr] at h; cases h) ?_ ?_
    · exact Drop.all hw hn1 (loop _ rfl rfl rfl)
    rintro ⟨j, n⟩ ⟨j1, j4, j5⟩
    simp only at j1 j4 j5 ⊢
    have hp10 : 10 ^ j ≤ 10 ^ 10 := Nat.pow_le_pow_right (by omega) (by omega)
    have hp11 : 10 ^ (j + 1) = 10 * 10 ^ j := by rw [Nat.pow_succ]; omega
    by_cases hj : j < s.size
    · have hjd : decide (((j : Nat) : Int) < (s.size : Int)) = true := by simp [hj]
      have hjp : ((j : Nat) : Int) < (s.size : Int) := by omega
      have hb : ((s.data.getD j 0).toNat : Int) = (((s.data.toList[j]'(by simpa using hj)).toNat : Nat) : Int) := byte_at s j hj
      have hd := drop_cons s j hj
      rw [hd] at j4
      simp only [rNumF] at j4
      generalize s.data.toList[j]'(by simpa using hj) = b at *
      have hwr : IntKind.i64.wrap ((j : Int) + 1) = ((j + 1 : Nat) : Int) := by rw [IntWalk.i64_in _ (by omega)]; rfl
      refine hgo_sound 60 ?_
      simp -implicitDefEqProofs (maxSteps := 1000000) only [simpS, ↓condJ_true, ↓condJ_false, ↓reduceIte, Nat.reduceEqDiff, Nat.reduceLT, Nat.reduceLeDiff, reduceCtorEq, Nat.reduceAdd, Nat.reduceSub, bindG_none, addG_none, hgrpK_none, nestK_none, hgrpK_guarded, Option.map_none, beq_self_eq_true, bne_self_eq_false, Option.map_some, if_true, if_false, List.getD_cons_zero, List.getD_cons_succ, List.length_cons, List.length_nil, List.mem_cons, List.not_mem_nil, List.mem_append, List.nil_append, List.cons_append, List.append_nil, List.take_succ_cons, List.take_zero, List.drop_succ_cons, List.drop_zero, List.set_cons_zero, List.set_cons_succ, List.map_cons, List.map_nil, implies_true, forall_const, ne_eq, hjd, hjp, Int.toNat_natCast, Int.natCast_nonneg, hb]
      refine hx_call (f := .fn 46) rfl (by rw [hP]; exact hcallD_func (rFigure_calls b _)) ?_
      rintro _ σ2 ⟨rfl, h⟩
      subst σ2
      cases hbf : isFig b
      · rw [hbf] at j4
        have hno : rNumD s = none := by rw [hgo, ← j4]; rfl
        simp only [numV, numB, hno]
        refine hgo_sound 60 ?_
        simp -implicitDefEqProofs (maxSteps := 1000000) only [simpS, ↓condJ_true, ↓condJ_false, ↓reduceIte, Nat.reduceEqDiff, Nat.reduceLT, Nat.reduceLeDiff, reduceCtorEq, Nat.reduceAdd, Nat.reduceSub, bindG_none, addG_none, hgrpK_none, nestK_none, hgrpK_guarded, Option.map_none, beq_self_eq_true, bne_self_eq_false, Option.map_some, if_true, if_false, List.getD_cons_zero, List.getD_cons_succ, List.length_cons, List.length_nil, List.mem_cons, List.not_mem_nil, List.mem_append, List.nil_append, List.cons_append, List.append_nil, List.take_succ_cons, List.take_zero, List.drop_succ_cons, List.drop_zero, List.set_cons_zero, List.set_cons_succ, List.map_cons, List.map_nil, implies_true, forall_const, ne_eq]
        exact fpost_pure (σ0 := σ) (.inr rfl) (by rw [hnx]; exact Nat.le_refl _) hwf (Sub.refl σ) rfl trivial ⟨trivial, trivial, trivial⟩ ⟨rfl, rfl⟩
      · rw [hbf, if_pos rfl] at j4
        obtain ⟨f1, f2, f3⟩ := fig_back hbf
        have hbw : IntKind.i64.wrap (b.toNat : Int) = (b.toNat : Int) := IntWalk.i64_in _ (by omega)
        have hw1 : IntKind.i64.wrap (10 * (n : Int)) = 10 * (n : Int) := IntWalk.i64_in _ (by omega)
        have hw2 : IntKind.i64.wrap (10 * (n : Int) + (b.toNat : Int)) = 10 * (n : Int) + (b.toNat : Int) := IntWalk.i64_in _ (by omega)
        have hw3 : IntKind.i64.wrap (10 * (n : Int) + (b.toNat : Int) - 48) = ((10 * n + (b.toNat - 48) : Nat) : Int) := by rw [IntWalk.i64_in _ (by omega)]; omega
        refine hgo_sound 60 ?_
        simp -implicitDefEqProofs (maxSteps := 1000000) only [simpS, ↓condJ_true, ↓condJ_false, ↓reduceIte, Nat.reduceEqDiff, Nat.reduceLT, Nat.reduceLeDiff, reduceCtorEq, Nat.reduceAdd, Nat.reduceSub, bindG_none, addG_none, hgrpK_none, nestK_none, hgrpK_guarded, Option.map_none, beq_self_eq_true, bne_self_eq_false, Option.map_some, if_true, if_false, List.getD_cons_zero, List.getD_cons_succ, List.length_cons, List.length_nil, List.mem_cons, List.not_mem_nil, List.mem_append, List.nil_append, List.cons_append, List.append_nil, List.take_succ_cons, List.take_zero, List.drop_succ_cons, List.drop_zero, List.set_cons_zero, List.set_cons_succ, List.map_cons, List.map_nil, implies_true, forall_const, ne_eq, hjp, Int.toNat_natCast, Int.natCast_nonneg, hb, hwr, hbw, hw1, hw2, hw3]
        intro hw4 hl2 hn2
        refine ⟨⟨j + 1, 10 * n + (b.toNat - 48)⟩, ⟨by simp only; omega, j4, by simp only; rw [hp11]; omega⟩, by simp only; omega, ?_⟩
        exact Drop.all hw4 hn2 ⟨⟨rfl, trivial⟩, ⟨rfl, trivial⟩, ⟨rfl, trivial⟩, trivial⟩
    · have hjd : decide (((j : Nat) : Int) < (s.size : Int)) = false := by simp [hj]
      have hd : s.data.toList.drop j = [] := List.drop_eq_nil_of_le (by omega)
      rw [hd] at j4
      simp only [rNumF] at j4
      rw [← j4] at hgo
      simp only at hgo
      by_cases hm : n > 2147483647
      · have hmd : decide ((n : Int) > 2147483647) = true := by simp; omega
        rw [if_pos hm] at hgo
        simp only [numV, numB, hgo]
        refine hgo_sound 60 ?_
        simp -implicitDefEqProofs (maxSteps := 1000000) only [simpS, ↓condJ_true, ↓condJ_false, ↓reduceIte, Nat.reduceEqDiff, Nat.reduceLT, Nat.reduceLeDiff, reduceCtorEq, Nat.reduceAdd, Nat.reduceSub, bindG_none, addG_none, hgrpK_none, nestK_none, hgrpK_guarded, Option.map_none, beq_self_eq_true, bne_self_eq_false, Option.map_some, if_true, if_false, List.getD_cons_zero, List.getD_cons_succ, List.length_cons, List.length_nil, List.mem_cons, List.not_mem_nil, List.mem_append, List.nil_append, List.cons_append, List.append_nil, List.take_succ_cons, List.take_zero, List.drop_succ_cons, List.drop_zero, List.set_cons_zero, List.set_cons_succ, List.map_cons, List.map_nil, implies_true, forall_const, ne_eq, hjd, hmd]
        exact fpost_pure (σ0 := σ) (.inr rfl) (by rw [hnx]; exact Nat.le_refl _) hwf (Sub.refl σ) rfl trivial ⟨trivial, trivial, trivial⟩ ⟨rfl, rfl⟩
      · have hmd : decide ((n : Int) > 2147483647) = false := by simp; omega
        rw [if_neg hm] at hgo
        simp only [numV, numB, hgo]
        refine hgo_sound 60 ?_
        simp -implicitDefEqProofs (maxSteps := 1000000) only [simpS, ↓condJ_true, ↓condJ_false, ↓reduceIte, Nat.reduceEqDiff, Nat.reduceLT, Nat.reduceLeDiff, reduceCtorEq, Nat.reduceAdd, Nat.reduceSub, bindG_none, addG_none, hgrpK_none, nestK_none, hgrpK_guarded, Option.map_none, beq_self_eq_true, bne_self_eq_false, Option.map_some, if_true, if_false, List.getD_cons_zero, List.getD_cons_succ, List.length_cons, List.length_nil, List.mem_cons, List.not_mem_nil, List.mem_append, List.nil_append, List.cons_append, List.append_nil, List.take_succ_cons, List.take_zero, List.drop_succ_cons, List.drop_zero, List.set_cons_zero, List.set_cons_succ, List.map_cons, List.map_nil, implies_true, forall_const, ne_eq, hjd, hmd]
        exact fpost_pure (σ0 := σ) (.inr rfl) (by rw [hnx]; exact Nat.le_refl _) hwf (Sub.refl σ) rfl trivial ⟨trivial, trivial, trivial⟩ ⟨rfl, rfl⟩
  · have d4 : (((s.data.getD 0 0).toNat : Int) == 48) = false := by
      rw [hh]
      simp only [beq_eq_false_iff_ne, ne_eq]
      intro e
      refine q3 ⟨by simp at d3; omega, ?_⟩
      apply UInt8.toNat_inj.1
      have : (48 : UInt8).toNat = 48 := rfl
      omega
    refine hgo_sound 60 ?_
    simp -implicitDefEqProofs (maxSteps := 1000000) only [simpS, ↓condJ_true, ↓condJ_false, ↓reduceIte, Nat.reduceEqDiff, Nat.reduceLT, Nat.reduceLeDiff, reduceCtorEq, Nat.reduceAdd, Nat.reduceSub, bindG_none, addG_none, hgrpK_none, nestK_none, hgrpK_guarded, Option.map_none, beq_self_eq_true, bne_self_eq_false, Option.map_some, if_true, if_false, List.getD_cons_zero, List.getD_cons_succ, List.length_cons, List.length_nil, List.mem_cons, List.not_mem_nil, List.mem_append, List.nil_append, List.cons_append, List.append_nil, List.take_succ_cons, List.take_zero, List.drop_succ_cons, List.drop_zero, List.set_cons_zero, List.set_cons_succ, List.map_cons, List.map_nil, implies_true, forall_const, ne_eq, d1, d2, d3, d4, hpos, Int.toNat_zero, Int.le_refl, Int.reduceToNat]
    refine hx_know_code fun hw hl1 hn1 => ?_
    refine hx_loop (S := RnuS) (fun t => [(0, .str s), (4, .int .i64 t.n), (5, .int .i64 t.j)]) (fun _ => σ)
      (fun t => t.j ≤ s.size ∧ rNumF t.n (s.data.toList.drop t.j) = rNumF 0 s.data.toList ∧ t.n < 10 ^ t.j) (fun t => s.size - t.j) ⟨0, 0⟩ ⟨Nat.zero_le _, rfl, by simp⟩ (fun _ _ h => by rw [hr] at h; cases h) ?_ ?_
    · exact Drop.all hw hn1 (loop _ rfl rfl rfl)
    rintro ⟨j, n⟩ ⟨j1, j4, j5⟩
    simp only at j1 j4 j5 ⊢
    have hp10 : 10 ^ j ≤ 10 ^ 10 := Nat.pow_le_pow_right (by omega) (by omega)
    have hp11 : 10 ^ (j + 1) = 10 * 10 ^ j := by rw [Nat.pow_succ]; omega
    by_cases hj : j < s.size
    · have hjd : decide (((j : Nat) : Int) < (s.size : Int)) = true := by simp [hj]
      have hjp : ((j : Nat) : Int) < (s.size : Int) := by omega
      have hb : ((s.data.getD j 0).toNat : Int) = (((s.data.toList[j]'(by simpa using hj)).toNat : Nat) : Int) := byte_at s j hj
      have hd := drop_cons s j hj
      rw [hd] at j4
      simp only [rNumF] at j4
      generalize s.data.toList[j]'(by simpa using hj) = b at *
      have hwr : IntKind.i64.wrap ((j : Int) + 1) = ((j + 1 : Nat) : Int) := by rw [IntWalk.i64_in _ (by omega)]; rfl
      refine hgo_sound 60 ?_
      simp -implicitDefEqProofs (maxSteps := 1000000) only [simpS, ↓condJ_true, ↓condJ_false, ↓reduceIte, Nat.reduceEqDiff, Nat.reduceLT, Nat.reduceLeDiff, reduceCtorEq, Nat.reduceAdd, Nat.reduceSub, bindG_none, addG_none, hgrpK_none, nestK_none, hgrpK_guarded, Option.map_none, beq_self_eq_true, bne_self_eq_false, Option.map_some, if_true, if_false, List.getD_cons_zero, List.getD_cons_succ, List.length_cons, List.length_nil, List.mem_cons, List.not_mem_nil, List.mem_append, List.nil_append, List.cons_append, List.append_nil, List.take_succ_cons, List.take_zero, List.drop_succ_cons, List.drop_zero, List.set_cons_zero, List.set_cons_succ, List.map_cons, List.map_nil, implies_true, forall_const, ne_eq, hjd, hjp, Int.toNat_natCast, Int.natCast_nonneg, hb]
      refine hx_call (f := .fn 46) rfl (by rw [hP]; exact hcallD_func (rFigure_calls b _)) ?_
      rintro _ σ2 ⟨rfl, h⟩
      subst σ2
      cases hbf : isFig b
      · rw [hbf] at j4
        have hno : rNumD s = none := by rw [hgo, ← j4]; rfl
        simp only [numV, numB, hno]
        refine hgo_sound 60 ?_
        simp -implicitDefEqProofs (maxSteps := 1000000) only [simpS, ↓condJ_true, ↓condJ_false, ↓reduceIte, Nat.reduceEqDiff, Nat.reduceLT, Nat.reduceLeDiff, reduceCtorEq, Nat.reduceAdd, Nat.reduceSub, bindG_none, addG_none, hgrpK_none, nestK_none, hgrpK_guarded, Option.map_none, beq_self_eq_true, bne_self_eq_false, Option.map_some, if_true, if_false, List.getD_cons_zero, List.getD_cons_succ, List.length_cons, List.length_nil, List.mem_cons, List.not_mem_nil, List.mem_append, List.nil_append, List.cons_append, List.append_nil, List.take_succ_cons, List.take_zero, List.drop_succ_cons, List.drop_zero, List.set_cons_zero, List.set_cons_succ, List.map_cons, List.map_nil, implies_true, forall_const, ne_eq]
        exact fpost_pure (σ0 := σ) (.inr rfl) (by rw [hnx]; exact Nat.le_refl _) hwf (Sub.refl σ) rfl trivial ⟨trivial, trivial, trivial⟩ ⟨rfl, rfl⟩
      · rw [hbf, if_pos rfl] at j4
        obtain ⟨f1, f2, f3⟩ := fig_back hbf
        have hbw : IntKind.i64.wrap (b.toNat : Int) = (b.toNat : Int) := IntWalk.i64_in _ (by omega)
        have hw1 : IntKind.i64.wrap (10 * (n : Int)) = 10 * (n : Int) := IntWalk.i64_in _ (by omega)
        have hw2 : IntKind.i64.wrap (10 * (n : Int) + (b.toNat : Int)) = 10 * (n : Int) + (b.toNat : Int) := IntWalk.i64_in _ (by omega)
        have hw3 : IntKind.i64.wrap (10 * (n : Int) + (b.toNat : Int) - 48) = ((10 * n + (b.toNat - 48) : Nat) : Int) := by rw [IntWalk.i64_in _ (by omega)]; omega
        refine hgo_sound 60 ?_
        simp -implicitDefEqProofs (maxSteps := 1000000) only [simpS, ↓condJ_true, ↓condJ_false, ↓reduceIte, Nat.reduceEqDiff, Nat.reduceLT, Nat.reduceLeDiff, reduceCtorEq, Nat.reduceAdd, Nat.reduceSub, bindG_none, addG_none, hgrpK_none, nestK_none, hgrpK_guarded, Option.map_none, beq_self_eq_true, bne_self_eq_false, Option.map_some, if_true, if_false, List.getD_cons_zero, List.getD_cons_succ, List.length_cons, List.length_nil, List.mem_cons, List.not_mem_nil, List.mem_append, List.nil_append, List.cons_append, List.append_nil, List.take_succ_cons, List.take_zero, List.drop_succ_cons, List.drop_zero, List.set_cons_zero, List.set_cons_succ, List.map_cons, List.map_nil, implies_true, forall_const, ne_eq, hjp, Int.toNat_natCast, Int.natCast_nonneg, hb, hwr, hbw, hw1, hw2, hw3]
        intro hw4 hl2 hn2
        refine ⟨⟨j + 1, 10 * n + (b.toNat - 48)⟩, ⟨by simp only; omega, j4, by simp only; rw [hp11]; omega⟩, by simp only; omega, ?_⟩
        exact Drop.all hw4 hn2 ⟨⟨rfl, trivial⟩, ⟨rfl, trivial⟩, ⟨rfl, trivial⟩, trivial⟩
    · have hjd : decide (((j : Nat) : Int) < (s.size : Int)) = false := by simp [hj]
      have hd : s.data.toList.drop j = [] := List.drop_eq_nil_of_le (by omega)
      rw [hd] at j4
      simp only [rNumF] at j4
      rw [← j4] at hgo
      simp only at hgo
      by_cases hm : n > 2147483647
      · have hmd : decide ((n : Int) > 2147483647) = true := by simp; omega
        rw [if_pos hm] at hgo
        simp only [numV, numB, hgo]
        refine hgo_sound 60 ?_
        simp -implicitDefEqProofs (maxSteps := 1000000) only [simpS, ↓condJ_true, ↓condJ_false, ↓reduceIte, Nat.reduceEqDiff, Nat.reduceLT, Nat.reduceLeDiff, reduceCtorEq, Nat.reduceAdd, Nat.reduceSub, bindG_none, addG_none, hgrpK_none, nestK_none, hgrpK_guarded, Option.map_none, beq_self_eq_true, bne_self_eq_false, Option.map_some, if_true, if_false, List.getD_cons_zero, List.getD_cons_succ, List.length_cons, List.length_nil, List.mem_cons, List.not_mem_nil, List.mem_append, List.nil_append, List.cons_append, List.append_nil, List.take_succ_cons, List.take_zero, List.drop_succ_cons, List.drop_zero, List.set_cons_zero, List.set_cons_succ, List.map_cons, List.map_nil, implies_true, forall_const, ne_eq, hjd, hmd]
        exact fpost_pure (σ0 := σ) (.inr rfl) (by rw [hnx]; exact Nat.le_refl _) hwf (Sub.refl σ) rfl trivial ⟨trivial, trivial, trivial⟩ ⟨rfl, rfl⟩
      · have hmd : decide ((n : Int) > 2147483647) = false := by simp; omega
        rw [if_neg hm] at hgo
        simp only [numV, numB, hgo]
        refine hgo_sound 60 ?_
        simp -implicitDefEqProofs (maxSteps := 1000000) only [simpS, ↓condJ_true, ↓condJ_false, ↓reduceIte, Nat.reduceEqDiff, Nat.reduceLT, Nat.reduceLeDiff, reduceCtorEq, Nat.reduceAdd, Nat.reduceSub, bindG_none, addG_none, hgrpK_none, nestK_none, hgrpK_guarded, Option.map_none, beq_self_eq_true, bne_self_eq_false, Option.map_some, if_true, if_false, List.getD_cons_zero, List.getD_cons_succ, List.length_cons, List.length_nil, List.mem_cons, List.not_mem_nil, List.mem_append, List.nil_append, List.cons_append, List.append_nil, List.take_succ_cons, List.take_zero, List.drop_succ_cons, List.drop_zero, List.set_cons_zero, List.set_cons_succ, List.map_cons, List.map_nil, implies_true, forall_const, ne_eq, hjd, hmd]
        exact fpost_pure (σ0 := σ) (.inr rfl) (by rw [hnx]; exact Nat.le_refl _) hwf (Sub.refl σ) rfl trivial ⟨trivial, trivial, trivial⟩ ⟨rfl, rfl⟩

end Go.Hl
