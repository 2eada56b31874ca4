/-
  The law's alive.
-/
import Derived.Test.YtlaljehmcacmjaaTrL
set_option linter.unusedSectionVars false
set_option linter.unusedVariables false
set_option linter.unusedSimpArgs false
set_option maxRecDepth 100000
namespace Go.Hl
open Go Go.Proofs

def lf1 : Nd := .mk 1 ⟨#[]⟩ ⟨#[33]⟩ 0 []
def lf2 : Nd := .mk 1 ⟨#[32]⟩ ⟨#[97]⟩ 2 []
def nd2 : Nd := .mk 28 ⟨#[]⟩ ⟨#[]⟩ 0 [lf2]
def ndA : Nd := .mk 21 ⟨#[]⟩ ⟨#[]⟩ 0 [lf1, nd2]

theorem ndA_right : rightN ndA = true := by
  rw [rightN_all ndA (by decide)]
  rfl
theorem ndA_leaves : leavesL (walkN ndA) = [lf1, lf2] := by
  unfold walkN
  rw [ndA_right]
  rfl
theorem ndA_text : textL (leavesL (walkN ndA)) = ⟨#[33, 32, 97]⟩ := by
  rw [ndA_leaves]
  rfl
theorem ndA_stands : standsN ndA 0 = true := by
  unfold standsN
  rw [ndA_right, ndA_leaves]
  rfl

theorem alive_calls (σ : St) : HCalls Try.prog 7 [] σ (fun d σ' => d = .bool true ∧ σ' = σ) := by
  refine hcalls_body (fn := Try.f7) rfl c7 (by simp [h7]) (by simp [h7, Try.f7]) ?_
  intro M hP hr hnt hnx hwf hlt
  simp only [h7, argEnv]
  refine hgo_sound 40 ?_
  simp -implicitDefEqProofs (maxSteps := 1000000) only [simpS, ↓condJ_true, ↓condJ_false, ↓reduceIte, Nat.reduceEqDiff, Nat.reduceLT, Nat.reduceLeDiff, reduceCtorEq, Nat.reduceAdd, Nat.reduceSub, Option.map_some, if_true, if_false, List.getD_cons_zero, List.getD_cons_succ, List.length_cons, List.length_nil, List.mem_cons, List.not_mem_nil, List.mem_append, List.nil_append, List.cons_append, List.append_nil, List.take_succ_cons, List.take_zero, List.drop_succ_cons, List.drop_zero, List.set_cons_zero, List.set_cons_succ, List.map_cons, List.map_nil, implies_true, forall_const, ne_eq]
  refine hx_call (f := .fn 31) rfl (by rw [hP]; exact hcallD_func (token_calls _ _ _ _)) ?_
  rintro _ σ2 ⟨rfl, h⟩
  subst σ2
  refine hgo_sound 40 ?_
  simp -implicitDefEqProofs (maxSteps := 1000000) only [simpS, ↓condJ_true, ↓condJ_false, ↓reduceIte, Nat.reduceEqDiff, Nat.reduceLT, Nat.reduceLeDiff, reduceCtorEq, Nat.reduceAdd, Nat.reduceSub, Option.map_some, if_true, if_false, List.getD_cons_zero, List.getD_cons_succ, List.length_cons, List.length_nil, List.mem_cons, List.not_mem_nil, List.mem_append, List.nil_append, List.cons_append, List.append_nil, List.take_succ_cons, List.take_zero, List.drop_succ_cons, List.drop_zero, List.set_cons_zero, List.set_cons_succ, List.map_cons, List.map_nil, implies_true, forall_const, ne_eq]
  refine hx_call (f := .fn 31) rfl (by rw [hP]; exact hcallD_func (token_calls _ _ _ _)) ?_
  rintro _ σ2 ⟨rfl, h⟩
  subst σ2
  refine hgo_sound 40 ?_
  simp -implicitDefEqProofs (maxSteps := 1000000) only [simpS, ↓condJ_true, ↓condJ_false, ↓reduceIte, Nat.reduceEqDiff, Nat.reduceLT, Nat.reduceLeDiff, reduceCtorEq, Nat.reduceAdd, Nat.reduceSub, Option.map_some, if_true, if_false, List.getD_cons_zero, List.getD_cons_succ, List.length_cons, List.length_nil, List.mem_cons, List.not_mem_nil, List.mem_append, List.nil_append, List.cons_append, List.append_nil, List.take_succ_cons, List.take_zero, List.drop_succ_cons, List.drop_zero, List.set_cons_zero, List.set_cons_succ, List.map_cons, List.map_nil, implies_true, forall_const, ne_eq, encN_length, encN_take]
  refine hx_call (f := .fn 30) rfl (by rw [hP]; exact hcallD_func (make_calls 28 [lf2] _ (by decide) _)) ?_
  rintro _ σ2 ⟨rfl, h⟩
  subst σ2
  refine hgo_sound 40 ?_
  simp -implicitDefEqProofs (maxSteps := 1000000) only [simpS, ↓condJ_true, ↓condJ_false, ↓reduceIte, Nat.reduceEqDiff, Nat.reduceLT, Nat.reduceLeDiff, reduceCtorEq, Nat.reduceAdd, Nat.reduceSub, Option.map_some, if_true, if_false, List.getD_cons_zero, List.getD_cons_succ, List.length_cons, List.length_nil, List.mem_cons, List.not_mem_nil, List.mem_append, List.nil_append, List.cons_append, List.append_nil, List.take_succ_cons, List.take_zero, List.drop_succ_cons, List.drop_zero, List.set_cons_zero, List.set_cons_succ, List.map_cons, List.map_nil, implies_true, forall_const, ne_eq, encN_length, encN_take]
  refine hx_call (f := .fn 30) rfl (by rw [hP]; exact hcallD_func (make_calls 21 [lf1, nd2] _ (by decide) _)) ?_
  rintro _ σ2 ⟨rfl, h⟩
  subst σ2
  refine hgo_sound 40 ?_
  simp -implicitDefEqProofs (maxSteps := 1000000) only [simpS, ↓condJ_true, ↓condJ_false, ↓reduceIte, Nat.reduceEqDiff, Nat.reduceLT, Nat.reduceLeDiff, reduceCtorEq, Nat.reduceAdd, Nat.reduceSub, Option.map_some, if_true, if_false, List.getD_cons_zero, List.getD_cons_succ, List.length_cons, List.length_nil, List.mem_cons, List.not_mem_nil, List.mem_append, List.nil_append, List.cons_append, List.append_nil, List.take_succ_cons, List.take_zero, List.drop_succ_cons, List.drop_zero, List.set_cons_zero, List.set_cons_succ, List.map_cons, List.map_nil, implies_true, forall_const, ne_eq, encN_length, encN_take]
  refine hx_call (f := .fn 11) rfl (by rw [hP]; exact hcallD_func (right_calls ndA (by decide) _)) ?_
  rintro _ σ2 ⟨rfl, h⟩
  subst σ2
  rw [ndA_right]
  refine hgo_sound 40 ?_
  simp -implicitDefEqProofs (maxSteps := 1000000) only [simpS, ↓condJ_true, ↓condJ_false, ↓reduceIte, Nat.reduceEqDiff, Nat.reduceLT, Nat.reduceLeDiff, reduceCtorEq, Nat.reduceAdd, Nat.reduceSub, Option.map_some, if_true, if_false, List.getD_cons_zero, List.getD_cons_succ, List.length_cons, List.length_nil, List.mem_cons, List.not_mem_nil, List.mem_append, List.nil_append, List.cons_append, List.append_nil, List.take_succ_cons, List.take_zero, List.drop_succ_cons, List.drop_zero, List.set_cons_zero, List.set_cons_succ, List.map_cons, List.map_nil, implies_true, forall_const, ne_eq, encN_length, encN_take]
  refine hx_call (f := .fn 12) rfl (by rw [hP]; exact hcallD_func (text_calls ndA (by decide) (by rw [ndA_leaves]; decide) _)) ?_
  rintro _ σ2 ⟨rfl, h⟩
  subst σ2
  rw [ndA_text]
  refine hgo_sound 40 ?_
  simp -implicitDefEqProofs (maxSteps := 1000000) only [simpS, ↓condJ_true, ↓condJ_false, ↓reduceIte, Nat.reduceEqDiff, Nat.reduceLT, Nat.reduceLeDiff, reduceCtorEq, Nat.reduceAdd, Nat.reduceSub, Option.map_some, if_true, if_false, List.getD_cons_zero, List.getD_cons_succ, List.length_cons, List.length_nil, List.mem_cons, List.not_mem_nil, List.mem_append, List.nil_append, List.cons_append, List.append_nil, List.take_succ_cons, List.take_zero, List.drop_succ_cons, List.drop_zero, List.set_cons_zero, List.set_cons_succ, List.map_cons, List.map_nil, implies_true, forall_const, ne_eq, encN_length, encN_take]
  refine hx_call (f := .fn 13) rfl (by rw [hP]; exact hcallD_func (stands_calls ndA (by decide) 0 _)) ?_
  rintro _ σ2 ⟨rfl, h⟩
  subst σ2
  rw [ndA_stands]
  refine hgo_sound 40 ?_
  simp -implicitDefEqProofs (maxSteps := 1000000) only [simpS, ↓condJ_true, ↓condJ_false, ↓reduceIte, Nat.reduceEqDiff, Nat.reduceLT, Nat.reduceLeDiff, reduceCtorEq, Nat.reduceAdd, Nat.reduceSub, Option.map_some, if_true, if_false, List.getD_cons_zero, List.getD_cons_succ, List.length_cons, List.length_nil, List.mem_cons, List.not_mem_nil, List.mem_append, List.nil_append, List.cons_append, List.append_nil, List.take_succ_cons, List.take_zero, List.drop_succ_cons, List.drop_zero, List.set_cons_zero, List.set_cons_succ, List.map_cons, List.map_nil, implies_true, forall_const, ne_eq, encN_length, encN_take]
  exact fpost_pure (σ0 := σ) (.inr rfl) (by rw [hnx]; exact Nat.le_refl _) hwf (((Ext.refl σ).new _).sub hwf) rfl trivial trivial ⟨rfl, rfl⟩

end Go.Hl
