/-
  Layer 5: names and numbers.
-/
import Derived.Test.YtijcddlahidhhaaDoorSgD
set_option linter.unusedSectionVars false
set_option linter.unusedVariables false
set_option linter.unusedSimpArgs false
set_option maxRecDepth 100000
namespace Go.Hl
open Go Go.Proofs

def numV (s : ByteArray) : Int := match rNumD s with | some n => n | none => 0
def numE (s : ByteArray) : Int := match rNumD s with | some n => 0 | none => 2

theorem arr_eq (l : List UInt8) (s : ByteArray) : (⟨l.toArray⟩ : ByteArray) = s ↔ l = s.data.toList := by
  constructor
  · rintro rfl
    rfl
  · rintro rfl
    cases s
    simp

theorem num_none {s : ByteArray} (h : ∀ n : Nat, Lib.atoiAll s.data.toList = .ok (n : Int) → s.data.toList.length ≤ 10 → n ≤ 2147483647 → Lib.itoa (n : Int) = s.data.toList → False) : rNumD s = none := by
  cases hn : rNumD s with
  | none => rfl
  | some n =>
    obtain ⟨h1, h2, h3, h4⟩ := num_is hn
    exact (h n h1 h2 h3 h4).elim

theorem number_calls (s : ByteArray) (hs : s.size ≤ 140737488355328) (σ : St) (hg : GK σ) : HCalls Tryd.prog 60 [.str s] σ (fun d σ' => d = .tuple [.int .i64 (numV s), erD (numE s)] ∧ σ' = σ) := by
  refine hcalls_body (fn := Tryd.f60) rfl c60 (by simp [h60]) (by simp [h60, Tryd.f60]) ?_
  intro M hP hr hnt hnx hwf hlt
  simp only [h60, argEnv]
  have hlen : s.data.toList.length = s.size := by simp
  refine hgo_sound 60 ?_
  simp -implicitDefEqProofs (maxSteps := 1000000) only [simpS, ↓condJ_true, ↓condJ_false, ↓reduceIte, Nat.reduceEqDiff, Nat.reduceLT, Nat.reduceLeDiff, reduceCtorEq, Nat.reduceAdd, Nat.reduceSub, bindG_none, addG_none, hgrpK_none, nestK_none, hgrpK_guarded, Option.map_none, beq_self_eq_true, bne_self_eq_false, Option.map_some, if_true, if_false, List.getD_cons_zero, List.getD_cons_succ, List.length_cons, List.length_nil, List.mem_cons, List.not_mem_nil, List.mem_append, List.nil_append, List.cons_append, List.append_nil, List.take_succ_cons, List.take_zero, List.drop_succ_cons, List.drop_zero, List.set_cons_zero, List.set_cons_succ, List.map_cons, List.map_nil, implies_true, forall_const, ne_eq]
  refine hx_call (f := .fn 67) rfl (by rw [hP]; exact hcallD_func (atoi_calls s hs _ hg)) ?_
  rintro _ σ2 ⟨rfl, h⟩
  subst σ2
  unfold atoiD
  cases ha : Lib.atoiAll s.data.toList with
  | range =>
    have hno : rNumD s = none := num_none fun n e1 e2 e3 e4 => by
      rw [ha] at e1; cases e1
    simp only [numV, numE, hno]
    refine hgo_sound 60 ?_
    simp -implicitDefEqProofs (maxSteps := 1000000) only [simpS, ↓condJ_true, ↓condJ_false, ↓reduceIte, Nat.reduceEqDiff, Nat.reduceLT, Nat.reduceLeDiff, reduceCtorEq, Nat.reduceAdd, Nat.reduceSub, bindG_none, addG_none, hgrpK_none, nestK_none, hgrpK_guarded, Option.map_none, beq_self_eq_true, bne_self_eq_false, Option.map_some, if_true, if_false, List.getD_cons_zero, List.getD_cons_succ, List.length_cons, List.length_nil, List.mem_cons, List.not_mem_nil, List.mem_append, List.nil_append, List.cons_append, List.append_nil, List.take_succ_cons, List.take_zero, List.drop_succ_cons, List.drop_zero, List.set_cons_zero, List.set_cons_succ, List.map_cons, List.map_nil, implies_true, forall_const, ne_eq, erD]
    exact fpost_pure (σ0 := σ) (.inr rfl) (by rw [hnx]; exact Nat.le_refl _) hwf (Sub.refl σ) rfl trivial ⟨trivial, trivial, trivial⟩ ⟨rfl, rfl⟩
  | ok v =>
    by_cases q1 : (s.size : Int) > 10
    · have d1 : decide ((s.size : Int) > 10) = true := by simp [q1]
      have hno : rNumD s = none := num_none fun n e1 e2 e3 e4 => by
        omega
      simp only [numV, numE, hno]
      refine hgo_sound 60 ?_
      simp -implicitDefEqProofs (maxSteps := 1000000) only [simpS, ↓condJ_true, ↓condJ_false, ↓reduceIte, Nat.reduceEqDiff, Nat.reduceLT, Nat.reduceLeDiff, reduceCtorEq, Nat.reduceAdd, Nat.reduceSub, bindG_none, addG_none, hgrpK_none, nestK_none, hgrpK_guarded, Option.map_none, beq_self_eq_true, bne_self_eq_false, Option.map_some, if_true, if_false, List.getD_cons_zero, List.getD_cons_succ, List.length_cons, List.length_nil, List.mem_cons, List.not_mem_nil, List.mem_append, List.nil_append, List.cons_append, List.append_nil, List.take_succ_cons, List.take_zero, List.drop_succ_cons, List.drop_zero, List.set_cons_zero, List.set_cons_succ, List.map_cons, List.map_nil, implies_true, forall_const, ne_eq, erD, d1]
      exact fpost_pure (σ0 := σ) (.inr rfl) (by rw [hnx]; exact Nat.le_refl _) hwf (Sub.refl σ) rfl trivial ⟨trivial, trivial, trivial⟩ ⟨rfl, rfl⟩
    have d1 : decide ((s.size : Int) > 10) = false := by simp; omega
    by_cases q2 : v < 0
    · have d2 : decide (v < 0) = true := by simp [q2]
      have hno : rNumD s = none := num_none fun n e1 e2 e3 e4 => by
        rw [ha] at e1; injection e1 with e1; omega
      simp only [numV, numE, hno]
      refine hgo_sound 60 ?_
      simp -implicitDefEqProofs (maxSteps := 1000000) only [simpS, ↓condJ_true, ↓condJ_false, ↓reduceIte, Nat.reduceEqDiff, Nat.reduceLT, Nat.reduceLeDiff, reduceCtorEq, Nat.reduceAdd, Nat.reduceSub, bindG_none, addG_none, hgrpK_none, nestK_none, hgrpK_guarded, Option.map_none, beq_self_eq_true, bne_self_eq_false, Option.map_some, if_true, if_false, List.getD_cons_zero, List.getD_cons_succ, List.length_cons, List.length_nil, List.mem_cons, List.not_mem_nil, List.mem_append, List.nil_append, List.cons_append, List.append_nil, List.take_succ_cons, List.take_zero, List.drop_succ_cons, List.drop_zero, List.set_cons_zero, List.set_cons_succ, List.map_cons, List.map_nil, implies_true, forall_const, ne_eq, erD, d1, d2]
      exact fpost_pure (σ0 := σ) (.inr rfl) (by rw [hnx]; exact Nat.le_refl _) hwf (Sub.refl σ) rfl trivial ⟨trivial, trivial, trivial⟩ ⟨rfl, rfl⟩
    have d2 : decide (v < 0) = false := by simp; omega
    by_cases q3 : v > 2147483647
    · have d3 : decide (v > 2147483647) = true := by simp [q3]
      have hno : rNumD s = none := num_none fun n e1 e2 e3 e4 => by
        rw [ha] at e1; injection e1 with e1; omega
      simp only [numV, numE, hno]
      refine hgo_sound 60 ?_
      simp -implicitDefEqProofs (maxSteps := 1000000) only [simpS, ↓condJ_true, ↓condJ_false, ↓reduceIte, Nat.reduceEqDiff, Nat.reduceLT, Nat.reduceLeDiff, reduceCtorEq, Nat.reduceAdd, Nat.reduceSub, bindG_none, addG_none, hgrpK_none, nestK_none, hgrpK_guarded, Option.map_none, beq_self_eq_true, bne_self_eq_false, Option.map_some, if_true, if_false, List.getD_cons_zero, List.getD_cons_succ, List.length_cons, List.length_nil, List.mem_cons, List.not_mem_nil, List.mem_append, List.nil_append, List.cons_append, List.append_nil, List.take_succ_cons, List.take_zero, List.drop_succ_cons, List.drop_zero, List.set_cons_zero, List.set_cons_succ, List.map_cons, List.map_nil, implies_true, forall_const, ne_eq, erD, d1, d2, d3]
      exact fpost_pure (σ0 := σ) (.inr rfl) (by rw [hnx]; exact Nat.le_refl _) hwf (Sub.refl σ) rfl trivial ⟨trivial, trivial, trivial⟩ ⟨rfl, rfl⟩
    have d3 : decide (v > 2147483647) = false := by simp; omega
    refine hgo_sound 60 ?_
    simp -implicitDefEqProofs (maxSteps := 1000000) only [simpS, ↓condJ_true, ↓condJ_false, ↓reduceIte, Nat.reduceEqDiff, Nat.reduceLT, Nat.reduceLeDiff, reduceCtorEq, Nat.reduceAdd, Nat.reduceSub, bindG_none, addG_none, hgrpK_none, nestK_none, hgrpK_guarded, Option.map_none, beq_self_eq_true, bne_self_eq_false, Option.map_some, if_true, if_false, List.getD_cons_zero, List.getD_cons_succ, List.length_cons, List.length_nil, List.mem_cons, List.not_mem_nil, List.mem_append, List.nil_append, List.cons_append, List.append_nil, List.take_succ_cons, List.take_zero, List.drop_succ_cons, List.drop_zero, List.set_cons_zero, List.set_cons_succ, List.map_cons, List.map_nil, implies_true, forall_const, ne_eq, d1, d2, d3]
    refine hx_call (f := .fn 68) rfl (by rw [hP]; exact hcallD_func (itoa_calls v (by omega) (by omega) _ hg)) ?_
    rintro _ σ2 ⟨rfl, h⟩
    subst σ2
    by_cases q4 : (⟨(Lib.itoa v).toArray⟩ : ByteArray) = s
    · have d4 : decide ((⟨(Lib.itoa v).toArray⟩ : ByteArray) = s) = true := by simp [q4]
      have hy := is_num (s := s) (v := v) (by omega) (by omega) (by omega) ((arr_eq _ _).1 q4)
      have hv : ((v.toNat : Nat) : Int) = v := by omega
      simp only [numV, numE, hy, hv]
      refine hgo_sound 60 ?_
      simp -implicitDefEqProofs (maxSteps := 1000000) only [simpS, ↓condJ_true, ↓condJ_false, ↓reduceIte, Nat.reduceEqDiff, Nat.reduceLT, Nat.reduceLeDiff, reduceCtorEq, Nat.reduceAdd, Nat.reduceSub, bindG_none, addG_none, hgrpK_none, nestK_none, hgrpK_guarded, Option.map_none, beq_self_eq_true, bne_self_eq_false, Option.map_some, if_true, if_false, List.getD_cons_zero, List.getD_cons_succ, List.length_cons, List.length_nil, List.mem_cons, List.not_mem_nil, List.mem_append, List.nil_append, List.cons_append, List.append_nil, List.take_succ_cons, List.take_zero, List.drop_succ_cons, List.drop_zero, List.set_cons_zero, List.set_cons_succ, List.map_cons, List.map_nil, implies_true, forall_const, ne_eq, d4, erD]
      exact fpost_pure (σ0 := σ) (.inr rfl) (by rw [hnx]; exact Nat.le_refl _) hwf (Sub.refl σ) rfl trivial ⟨trivial, trivial, trivial⟩ ⟨rfl, rfl⟩
    · have d4 : decide ((⟨(Lib.itoa v).toArray⟩ : ByteArray) = s) = false := by simp [q4]
      have hno : rNumD s = none := num_none fun n e1 e2 e3 e4 => by
        exact q4 ((arr_eq _ _).2 (by rw [ha] at e1; injection e1 with e1; rw [e1]; exact e4))
      simp only [numV, numE, hno]
      refine hgo_sound 60 ?_
      simp -implicitDefEqProofs (maxSteps := 1000000) only [simpS, ↓condJ_true, ↓condJ_false, ↓reduceIte, Nat.reduceEqDiff, Nat.reduceLT, Nat.reduceLeDiff, reduceCtorEq, Nat.reduceAdd, Nat.reduceSub, bindG_none, addG_none, hgrpK_none, nestK_none, hgrpK_guarded, Option.map_none, beq_self_eq_true, bne_self_eq_false, Option.map_some, if_true, if_false, List.getD_cons_zero, List.getD_cons_succ, List.length_cons, List.length_nil, List.mem_cons, List.not_mem_nil, List.mem_append, List.nil_append, List.cons_append, List.append_nil, List.take_succ_cons, List.take_zero, List.drop_succ_cons, List.drop_zero, List.set_cons_zero, List.set_cons_succ, List.map_cons, List.map_nil, implies_true, forall_const, ne_eq, erD, d4]
      exact fpost_pure (σ0 := σ) (.inr rfl) (by rw [hnx]; exact Nat.le_refl _) hwf (Sub.refl σ) rfl trivial ⟨trivial, trivial, trivial⟩ ⟨rfl, rfl⟩
  | _ =>
    have hno : rNumD s = none := num_none fun n e1 e2 e3 e4 => by
      rw [ha] at e1; cases e1
    simp only [numV, numE, hno]
    refine hgo_sound 60 ?_
    simp -implicitDefEqProofs (maxSteps := 1000000) only [simpS, ↓condJ_true, ↓condJ_false, ↓reduceIte, Nat.reduceEqDiff, Nat.reduceLT, Nat.reduceLeDiff, reduceCtorEq, Nat.reduceAdd, Nat.reduceSub, bindG_none, addG_none, hgrpK_none, nestK_none, hgrpK_guarded, Option.map_none, beq_self_eq_true, bne_self_eq_false, Option.map_some, if_true, if_false, List.getD_cons_zero, List.getD_cons_succ, List.length_cons, List.length_nil, List.mem_cons, List.not_mem_nil, List.mem_append, List.nil_append, List.cons_append, List.append_nil, List.take_succ_cons, List.take_zero, List.drop_succ_cons, List.drop_zero, List.set_cons_zero, List.set_cons_succ, List.map_cons, List.map_nil, implies_true, forall_const, ne_eq, erD]
    exact fpost_pure (σ0 := σ) (.inr rfl) (by rw [hnx]; exact Nat.le_refl _) hwf (Sub.refl σ) rfl trivial ⟨trivial, trivial, trivial⟩ ⟨rfl, rfl⟩

end Go.Hl
