/-
  Layer 1: New, errors, a nil Table; the reference.
-/
import Derived.Test.YtldfojmjjidadaaTxG
set_option linter.unusedSectionVars false
set_option linter.unusedVariables false
set_option linter.unusedSimpArgs false
set_option maxRecDepth 100000
namespace Go.Hl
open Go Go.Proofs Go.RowKit

abbrev newS (σ : St) (s : ByteArray) : St := (σ.new (tabO s (σ.next + 1) 0 0 0 [])).new (tkO [])

theorem newS_tbP (σ : St) (s : ByteArray) : TbP (newS σ s) σ.next (σ.next + 1) s :=
  ⟨by omega, .inl ⟨by simp [newS, St.obj_new, St.next_new], by simp [newS, St.obj_new, St.next_new]⟩⟩

theorem new_calls (s : ByteArray) (σ : St) : HCalls Try.prog 8 [.str s] σ (fun d σ' => d = .ptr σ.next 0 ∧ σ' = newS σ s) := by
  refine hcalls_body (fn := Try.f8) rfl c8 (by simp [h8]) (by simp [h8, Try.f8]) ?_
  intro M hP hr hnt hnx hwf hlt
  simp only [h8, argEnv]
  have hnt' : M.nt = 6 := hnt
  refine hgo_sound 12 ?_
  simp -implicitDefEqProofs (maxSteps := 1000000) only [simpS, ↓condJ_true, ↓condJ_false, ↓reduceIte, Nat.reduceEqDiff, Nat.reduceLT, Nat.reduceLeDiff, reduceCtorEq, Nat.reduceAdd, Nat.reduceSub, bindG_none, addG_none, hgrpK_none, nestK_none, hgrpK_guarded, Option.map_none, beq_self_eq_true, bne_self_eq_false, Option.map_some, if_true, if_false, List.getD_cons_zero, List.getD_cons_succ, List.length_cons, List.length_nil, List.mem_cons, List.not_mem_nil, List.mem_append, List.nil_append, List.cons_append, List.append_nil, List.take_succ_cons, List.take_zero, List.drop_succ_cons, List.drop_zero, List.set_cons_zero, List.set_cons_succ, List.map_cons, List.map_nil, implies_true, forall_const, ne_eq]
  refine hx_full_box (id := σ.next) (j := 5) (cs := [.str s, .int .u32 0, .int .i32 0, .int .u32 0, .int .i64 0, .slice .nil 0 []]) (ot := none) 3 1 (by simp -implicitDefEqProofs (maxSteps := 1000000) only [simpS, ↓condJ_true, ↓condJ_false, ↓reduceIte, Nat.reduceEqDiff, Nat.reduceLT, Nat.reduceLeDiff, reduceCtorEq, Nat.reduceAdd, Nat.reduceSub, bindG_none, addG_none, hgrpK_none, nestK_none, hgrpK_guarded, Option.map_none, beq_self_eq_true, bne_self_eq_false, Option.map_some, if_true, if_false, List.getD_cons_zero, List.getD_cons_succ, List.length_cons, List.length_nil, List.mem_cons, List.not_mem_nil, List.mem_append, List.nil_append, List.cons_append, List.append_nil, List.take_succ_cons, List.take_zero, List.drop_succ_cons, List.drop_zero, List.set_cons_zero, List.set_cons_succ, List.map_cons, List.map_nil, implies_true, forall_const, ne_eq]) rfl ?_ (fun _ e => by cases e) (fun _ e => by cases e)
  have m1 : ¬ σ.next + 1 = σ.next := by omega
  refine hgo_sound 60 ?_
  simp -implicitDefEqProofs (maxSteps := 1000000) only [simpS, ↓condJ_true, ↓condJ_false, ↓reduceIte, Nat.reduceEqDiff, Nat.reduceLT, Nat.reduceLeDiff, reduceCtorEq, Nat.reduceAdd, Nat.reduceSub, bindG_none, addG_none, hgrpK_none, nestK_none, hgrpK_guarded, Option.map_none, beq_self_eq_true, bne_self_eq_false, Option.map_some, if_true, if_false, List.getD_cons_zero, List.getD_cons_succ, List.length_cons, List.length_nil, List.mem_cons, List.not_mem_nil, List.mem_append, List.nil_append, List.cons_append, List.append_nil, List.take_succ_cons, List.take_zero, List.drop_succ_cons, List.drop_zero, List.set_cons_zero, List.set_cons_succ, List.map_cons, List.map_nil, implies_true, forall_const, ne_eq]
  refine fpost_keep (.inr rfl) rfl trivial (fun h => ?_) (fun hw => ⟨rfl, ?_⟩)
  · simp only [tupD, look, if_true, D.lt, St.next_new]; omega
  · refine St.ext' (fun q => ?_) rfl rfl
    simp only [newS, tkO, St.obj_new, St.obj_put, St.next_new, tabO_eq, List.length_nil]
    by_cases q1 : q = σ.next
    · simp [q1, encB]
    · by_cases q2 : q = σ.next + 1 <;> simp [q1, q2]

theorem numNil_calls  (σ : St) : HCalls Try.prog 23 [.nili] σ (fun d σ' => d = .int .i64 0 ∧ σ' = σ) := by
  refine hcalls_body (fn := Try.f23) rfl c23 (by simp [h23]) (by simp [h23, Try.f23]) ?_
  intro M hP hr hnt hnx hwf hlt
  simp only [h23, argEnv]
  have hnt' : M.nt = 18 := hnt
  refine hgo_sound 60 ?_
  simp -implicitDefEqProofs (maxSteps := 1000000) only [simpS, ↓condJ_true, ↓condJ_false, ↓reduceIte, Nat.reduceEqDiff, Nat.reduceLT, Nat.reduceLeDiff, reduceCtorEq, Nat.reduceAdd, Nat.reduceSub, bindG_none, addG_none, hgrpK_none, nestK_none, hgrpK_guarded, Option.map_none, beq_self_eq_true, bne_self_eq_false, Option.map_some, if_true, if_false, List.getD_cons_zero, List.getD_cons_succ, List.length_cons, List.length_nil, List.mem_cons, List.not_mem_nil, List.mem_append, List.nil_append, List.cons_append, List.append_nil, List.take_succ_cons, List.take_zero, List.drop_succ_cons, List.drop_zero, List.set_cons_zero, List.set_cons_succ, List.map_cons, List.map_nil, implies_true, forall_const, ne_eq]
  exact fpost_pure (σ0 := σ) (.inr rfl) (by rw [hnx]; exact Nat.le_refl _) hwf (by first | exact Sub.refl σ | exact (((Ext.refl _).new _).sub hwf)) rfl trivial (by repeat' (first | trivial | apply And.intro)) ⟨rfl, rfl⟩
theorem numR_calls  (σ : St) : HCalls Try.prog 23 [erR] σ (fun d σ' => d = .int .i64 1 ∧ σ' = σ) := by
  refine hcalls_body (fn := Try.f23) rfl c23 (by simp [h23]) (by simp [h23, Try.f23]) ?_
  intro M hP hr hnt hnx hwf hlt
  simp only [h23, argEnv]
  have hnt' : M.nt = 18 := hnt
  refine hgo_sound 60 ?_
  simp -implicitDefEqProofs (maxSteps := 1000000) only [simpS, ↓condJ_true, ↓condJ_false, ↓reduceIte, Nat.reduceEqDiff, Nat.reduceLT, Nat.reduceLeDiff, reduceCtorEq, Nat.reduceAdd, Nat.reduceSub, bindG_none, addG_none, hgrpK_none, nestK_none, hgrpK_guarded, Option.map_none, beq_self_eq_true, bne_self_eq_false, Option.map_some, if_true, if_false, List.getD_cons_zero, List.getD_cons_succ, List.length_cons, List.length_nil, List.mem_cons, List.not_mem_nil, List.mem_append, List.nil_append, List.cons_append, List.append_nil, List.take_succ_cons, List.take_zero, List.drop_succ_cons, List.drop_zero, List.set_cons_zero, List.set_cons_succ, List.map_cons, List.map_nil, implies_true, forall_const, ne_eq, show ((1 : Int) != 0) = true by rfl]
  exact fpost_pure (σ0 := σ) (.inr rfl) (by rw [hnx]; exact Nat.le_refl _) hwf (by first | exact Sub.refl σ | exact (((Ext.refl _).new _).sub hwf)) rfl trivial (by repeat' (first | trivial | apply And.intro)) ⟨rfl, rfl⟩
theorem isNil_calls  (σ : St) : HCalls Try.prog 12 [.nili, .int .i64 1] σ (fun d σ' => d = .bool false ∧ σ' = σ) := by
  refine hcalls_body (fn := Try.f12) rfl c12 (by simp [h12]) (by simp [h12, Try.f12]) ?_
  intro M hP hr hnt hnx hwf hlt
  simp only [h12, argEnv]
  have hnt' : M.nt = 9 := hnt
  refine hgo_sound 60 ?_
  simp -implicitDefEqProofs (maxSteps := 1000000) only [simpS, ↓condJ_true, ↓condJ_false, ↓reduceIte, Nat.reduceEqDiff, Nat.reduceLT, Nat.reduceLeDiff, reduceCtorEq, Nat.reduceAdd, Nat.reduceSub, bindG_none, addG_none, hgrpK_none, nestK_none, hgrpK_guarded, Option.map_none, beq_self_eq_true, bne_self_eq_false, Option.map_some, if_true, if_false, List.getD_cons_zero, List.getD_cons_succ, List.length_cons, List.length_nil, List.mem_cons, List.not_mem_nil, List.mem_append, List.nil_append, List.cons_append, List.append_nil, List.take_succ_cons, List.take_zero, List.drop_succ_cons, List.drop_zero, List.set_cons_zero, List.set_cons_succ, List.map_cons, List.map_nil, implies_true, forall_const, ne_eq]
  refine hx_call (f := .fn 23) rfl (by rw [hP]; exact hcallD_func (numNil_calls _)) ?_
  rintro _ σ2 ⟨rfl, h⟩
  subst σ2
  refine hgo_sound 60 ?_
  simp -implicitDefEqProofs (maxSteps := 1000000) only [simpS, ↓condJ_true, ↓condJ_false, ↓reduceIte, Nat.reduceEqDiff, Nat.reduceLT, Nat.reduceLeDiff, reduceCtorEq, Nat.reduceAdd, Nat.reduceSub, bindG_none, addG_none, hgrpK_none, nestK_none, hgrpK_guarded, Option.map_none, beq_self_eq_true, bne_self_eq_false, Option.map_some, if_true, if_false, List.getD_cons_zero, List.getD_cons_succ, List.length_cons, List.length_nil, List.mem_cons, List.not_mem_nil, List.mem_append, List.nil_append, List.cons_append, List.append_nil, List.take_succ_cons, List.take_zero, List.drop_succ_cons, List.drop_zero, List.set_cons_zero, List.set_cons_succ, List.map_cons, List.map_nil, implies_true, forall_const, ne_eq, show ((0 : Int) == 1) = false by rfl]
  exact fpost_pure (σ0 := σ) (.inr rfl) (by rw [hnx]; exact Nat.le_refl _) hwf (by first | exact Sub.refl σ | exact (((Ext.refl _).new _).sub hwf)) rfl trivial (by repeat' (first | trivial | apply And.intro)) ⟨rfl, rfl⟩
theorem isR_calls  (σ : St) : HCalls Try.prog 12 [erR, .int .i64 1] σ (fun d σ' => d = .bool true ∧ σ' = σ) := by
  refine hcalls_body (fn := Try.f12) rfl c12 (by simp [h12]) (by simp [h12, Try.f12]) ?_
  intro M hP hr hnt hnx hwf hlt
  simp only [h12, argEnv]
  have hnt' : M.nt = 9 := hnt
  refine hgo_sound 60 ?_
  simp -implicitDefEqProofs (maxSteps := 1000000) only [simpS, ↓condJ_true, ↓condJ_false, ↓reduceIte, Nat.reduceEqDiff, Nat.reduceLT, Nat.reduceLeDiff, reduceCtorEq, Nat.reduceAdd, Nat.reduceSub, bindG_none, addG_none, hgrpK_none, nestK_none, hgrpK_guarded, Option.map_none, beq_self_eq_true, bne_self_eq_false, Option.map_some, if_true, if_false, List.getD_cons_zero, List.getD_cons_succ, List.length_cons, List.length_nil, List.mem_cons, List.not_mem_nil, List.mem_append, List.nil_append, List.cons_append, List.append_nil, List.take_succ_cons, List.take_zero, List.drop_succ_cons, List.drop_zero, List.set_cons_zero, List.set_cons_succ, List.map_cons, List.map_nil, implies_true, forall_const, ne_eq]
  refine hx_call (f := .fn 23) rfl (by rw [hP]; exact hcallD_func (numR_calls _)) ?_
  rintro _ σ2 ⟨rfl, h⟩
  subst σ2
  refine hgo_sound 60 ?_
  simp -implicitDefEqProofs (maxSteps := 1000000) only [simpS, ↓condJ_true, ↓condJ_false, ↓reduceIte, Nat.reduceEqDiff, Nat.reduceLT, Nat.reduceLeDiff, reduceCtorEq, Nat.reduceAdd, Nat.reduceSub, bindG_none, addG_none, hgrpK_none, nestK_none, hgrpK_guarded, Option.map_none, beq_self_eq_true, bne_self_eq_false, Option.map_some, if_true, if_false, List.getD_cons_zero, List.getD_cons_succ, List.length_cons, List.length_nil, List.mem_cons, List.not_mem_nil, List.mem_append, List.nil_append, List.cons_append, List.append_nil, List.take_succ_cons, List.take_zero, List.drop_succ_cons, List.drop_zero, List.set_cons_zero, List.set_cons_succ, List.map_cons, List.map_nil, implies_true, forall_const, ne_eq, beq_self_eq_true]
  exact fpost_pure (σ0 := σ) (.inr rfl) (by rw [hnx]; exact Nat.le_refl _) hwf (by first | exact Sub.refl σ | exact (((Ext.refl _).new _).sub hwf)) rfl trivial (by repeat' (first | trivial | apply And.intro)) ⟨rfl, rfl⟩

theorem placeN_calls (a : Int) (σ : St) : HCalls Try.prog 14 [.nilp, .int .i64 a] σ (fun d σ' => d = .tuple [.int .i64 0, .int .i64 0, erR] ∧ σ' = σ) := by
  refine hcalls_body (fn := Try.f14) rfl c14 (by simp [h14]) (by simp [h14, Try.f14]) ?_
  intro M hP hr hnt hnx hwf hlt
  simp only [h14, argEnv]
  have hnt' : M.nt = 45 := hnt
  refine hgo_sound 60 ?_
  simp -implicitDefEqProofs (maxSteps := 1000000) only [simpS, ↓condJ_true, ↓condJ_false, ↓reduceIte, Nat.reduceEqDiff, Nat.reduceLT, Nat.reduceLeDiff, reduceCtorEq, Nat.reduceAdd, Nat.reduceSub, bindG_none, addG_none, hgrpK_none, nestK_none, hgrpK_guarded, Option.map_none, beq_self_eq_true, bne_self_eq_false, Option.map_some, if_true, if_false, List.getD_cons_zero, List.getD_cons_succ, List.length_cons, List.length_nil, List.mem_cons, List.not_mem_nil, List.mem_append, List.nil_append, List.cons_append, List.append_nil, List.take_succ_cons, List.take_zero, List.drop_succ_cons, List.drop_zero, List.set_cons_zero, List.set_cons_succ, List.map_cons, List.map_nil, implies_true, forall_const, ne_eq]
  exact fpost_pure (σ0 := σ) (.inr rfl) (by rw [hnx]; exact Nat.le_refl _) hwf (by first | exact Sub.refl σ | exact (((Ext.refl _).new _).sub hwf)) rfl trivial (by repeat' (first | trivial | apply And.intro)) ⟨rfl, rfl⟩
theorem lenN_calls  (σ : St) : HCalls Try.prog 13 [.nilp] σ (fun d σ' => d = .int .i64 0 ∧ σ' = σ) := by
  refine hcalls_body (fn := Try.f13) rfl c13 (by simp [h13]) (by simp [h13, Try.f13]) ?_
  intro M hP hr hnt hnx hwf hlt
  simp only [h13, argEnv]
  have hnt' : M.nt = 8 := hnt
  refine hgo_sound 60 ?_
  simp -implicitDefEqProofs (maxSteps := 1000000) only [simpS, ↓condJ_true, ↓condJ_false, ↓reduceIte, Nat.reduceEqDiff, Nat.reduceLT, Nat.reduceLeDiff, reduceCtorEq, Nat.reduceAdd, Nat.reduceSub, bindG_none, addG_none, hgrpK_none, nestK_none, hgrpK_guarded, Option.map_none, beq_self_eq_true, bne_self_eq_false, Option.map_some, if_true, if_false, List.getD_cons_zero, List.getD_cons_succ, List.length_cons, List.length_nil, List.mem_cons, List.not_mem_nil, List.mem_append, List.nil_append, List.cons_append, List.append_nil, List.take_succ_cons, List.take_zero, List.drop_succ_cons, List.drop_zero, List.set_cons_zero, List.set_cons_succ, List.map_cons, List.map_nil, implies_true, forall_const, ne_eq]
  exact fpost_pure (σ0 := σ) (.inr rfl) (by rw [hnx]; exact Nat.le_refl _) hwf (by first | exact Sub.refl σ | exact (((Ext.refl _).new _).sub hwf)) rfl trivial (by repeat' (first | trivial | apply And.intro)) ⟨rfl, rfl⟩
theorem madeN_calls  (σ : St) : HCalls Try.prog 9 [.nilp] σ (fun d σ' => d = .int .i64 0 ∧ σ' = σ) := by
  refine hcalls_body (fn := Try.f9) rfl c9 (by simp [h9]) (by simp [h9, Try.f9]) ?_
  intro M hP hr hnt hnx hwf hlt
  simp only [h9, argEnv]
  have hnt' : M.nt = 9 := hnt
  refine hgo_sound 60 ?_
  simp -implicitDefEqProofs (maxSteps := 1000000) only [simpS, ↓condJ_true, ↓condJ_false, ↓reduceIte, Nat.reduceEqDiff, Nat.reduceLT, Nat.reduceLeDiff, reduceCtorEq, Nat.reduceAdd, Nat.reduceSub, bindG_none, addG_none, hgrpK_none, nestK_none, hgrpK_guarded, Option.map_none, beq_self_eq_true, bne_self_eq_false, Option.map_some, if_true, if_false, List.getD_cons_zero, List.getD_cons_succ, List.length_cons, List.length_nil, List.mem_cons, List.not_mem_nil, List.mem_append, List.nil_append, List.cons_append, List.append_nil, List.take_succ_cons, List.take_zero, List.drop_succ_cons, List.drop_zero, List.set_cons_zero, List.set_cons_succ, List.map_cons, List.map_nil, implies_true, forall_const, ne_eq]
  exact fpost_pure (σ0 := σ) (.inr rfl) (by rw [hnx]; exact Nat.le_refl _) hwf (by first | exact Sub.refl σ | exact (((Ext.refl _).new _).sub hwf)) rfl trivial (by repeat' (first | trivial | apply And.intro)) ⟨rfl, rfl⟩
theorem lineN_calls  (σ : St) : HCalls Try.prog 11 [.nilp, .int .i64 0] σ (fun d σ' => d = .tuple [.str ⟨#[]⟩, erR] ∧ σ' = σ) := by
  refine hcalls_body (fn := Try.f11) rfl c11 (by simp [h11]) (by simp [h11, Try.f11]) ?_
  intro M hP hr hnt hnx hwf hlt
  simp only [h11, argEnv]
  have hnt' : M.nt = 28 := hnt
  refine hgo_sound 60 ?_
  simp -implicitDefEqProofs (maxSteps := 1000000) only [simpS, ↓condJ_true, ↓condJ_false, ↓reduceIte, Nat.reduceEqDiff, Nat.reduceLT, Nat.reduceLeDiff, reduceCtorEq, Nat.reduceAdd, Nat.reduceSub, bindG_none, addG_none, hgrpK_none, nestK_none, hgrpK_guarded, Option.map_none, beq_self_eq_true, bne_self_eq_false, Option.map_some, if_true, if_false, List.getD_cons_zero, List.getD_cons_succ, List.length_cons, List.length_nil, List.mem_cons, List.not_mem_nil, List.mem_append, List.nil_append, List.cons_append, List.append_nil, List.take_succ_cons, List.take_zero, List.drop_succ_cons, List.drop_zero, List.set_cons_zero, List.set_cons_succ, List.map_cons, List.map_nil, implies_true, forall_const, ne_eq, show decide ((0 : Int) < 0) = false by rfl]
  refine hx_call (f := .fn 13) rfl (by rw [hP]; exact hcallD_func (lenN_calls _)) ?_
  rintro _ σ2 ⟨rfl, h⟩
  subst σ2
  refine hgo_sound 60 ?_
  simp -implicitDefEqProofs (maxSteps := 1000000) only [simpS, ↓condJ_true, ↓condJ_false, ↓reduceIte, Nat.reduceEqDiff, Nat.reduceLT, Nat.reduceLeDiff, reduceCtorEq, Nat.reduceAdd, Nat.reduceSub, bindG_none, addG_none, hgrpK_none, nestK_none, hgrpK_guarded, Option.map_none, beq_self_eq_true, bne_self_eq_false, Option.map_some, if_true, if_false, List.getD_cons_zero, List.getD_cons_succ, List.length_cons, List.length_nil, List.mem_cons, List.not_mem_nil, List.mem_append, List.nil_append, List.cons_append, List.append_nil, List.take_succ_cons, List.take_zero, List.drop_succ_cons, List.drop_zero, List.set_cons_zero, List.set_cons_succ, List.map_cons, List.map_nil, implies_true, forall_const, ne_eq, show decide ((0 : Int) ≥ 0) = true by rfl]
  exact fpost_pure (σ0 := σ) (.inr rfl) (by rw [hnx]; exact Nat.le_refl _) hwf (by first | exact Sub.refl σ | exact (((Ext.refl _).new _).sub hwf)) rfl trivial (by repeat' (first | trivial | apply And.intro)) ⟨rfl, rfl⟩
theorem atN_calls  (σ : St) : HCalls Try.prog 16 [.nilp, .int .i64 0, .int .i64 0] σ (fun d σ' => d = .tuple [.int .i64 0, erR] ∧ σ' = σ) := by
  refine hcalls_body (fn := Try.f16) rfl c16 (by simp [h16]) (by simp [h16, Try.f16]) ?_
  intro M hP hr hnt hnx hwf hlt
  simp only [h16, argEnv]
  have hnt' : M.nt = 36 := hnt
  refine hgo_sound 60 ?_
  simp -implicitDefEqProofs (maxSteps := 1000000) only [simpS, ↓condJ_true, ↓condJ_false, ↓reduceIte, Nat.reduceEqDiff, Nat.reduceLT, Nat.reduceLeDiff, reduceCtorEq, Nat.reduceAdd, Nat.reduceSub, bindG_none, addG_none, hgrpK_none, nestK_none, hgrpK_guarded, Option.map_none, beq_self_eq_true, bne_self_eq_false, Option.map_some, if_true, if_false, List.getD_cons_zero, List.getD_cons_succ, List.length_cons, List.length_nil, List.mem_cons, List.not_mem_nil, List.mem_append, List.nil_append, List.cons_append, List.append_nil, List.take_succ_cons, List.take_zero, List.drop_succ_cons, List.drop_zero, List.set_cons_zero, List.set_cons_succ, List.map_cons, List.map_nil, implies_true, forall_const, ne_eq]
  refine hx_call (f := .fn 11) rfl (by rw [hP]; exact hcallD_func (lineN_calls _)) ?_
  rintro _ σ2 ⟨rfl, h⟩
  subst σ2
  refine hgo_sound 60 ?_
  simp -implicitDefEqProofs (maxSteps := 1000000) only [simpS, ↓condJ_true, ↓condJ_false, ↓reduceIte, Nat.reduceEqDiff, Nat.reduceLT, Nat.reduceLeDiff, reduceCtorEq, Nat.reduceAdd, Nat.reduceSub, bindG_none, addG_none, hgrpK_none, nestK_none, hgrpK_guarded, Option.map_none, beq_self_eq_true, bne_self_eq_false, Option.map_some, if_true, if_false, List.getD_cons_zero, List.getD_cons_succ, List.length_cons, List.length_nil, List.mem_cons, List.not_mem_nil, List.mem_append, List.nil_append, List.cons_append, List.append_nil, List.take_succ_cons, List.take_zero, List.drop_succ_cons, List.drop_zero, List.set_cons_zero, List.set_cons_succ, List.map_cons, List.map_nil, implies_true, forall_const, ne_eq]
  exact fpost_pure (σ0 := σ) (.inr rfl) (by rw [hnx]; exact Nat.le_refl _) hwf (by first | exact Sub.refl σ | exact (((Ext.refl _).new _).sub hwf)) rfl trivial (by repeat' (first | trivial | apply And.intro)) ⟨rfl, rfl⟩

/-! ### The reference -/

def encLs (l : List (Nat × ByteArray)) : List (List D) := l.map encL
theorem encLs_length (l : List (Nat × ByteArray)) : (encLs l).length = l.length := by simp [encLs]
theorem encLs_snoc (l : List (Nat × ByteArray)) (x : Nat × ByteArray) : encLs (l ++ [x]) = encLs l ++ [encL x] := by simp [encLs]
theorem encLs_lt (n : Nat) : ∀ l : List (Nat × ByteArray), ltX n (encLs l)
  | [] => trivial
  | s :: l => ⟨⟨trivial, trivial, trivial⟩, encLs_lt n l⟩
theorem snoc_get {α : Type} (l : List α) (x d : α) : (l ++ [x]).getD l.length d = x := by simp [List.getD]
theorem snoc_set {α : Type} (l : List α) (x y : α) : (l ++ [x]).set l.length y = l ++ [y] := by simp
theorem ex_empty (s : ByteArray) (a : Nat) : s.extract a a = ⟨#[]⟩ := by
  apply ByteArray.ext
  simp

structure RlS where
  acc : List (Nat × ByteArray)
  a : Nat
  i : Nat
  g : Nat

theorem byte_at1 (s : ByteArray) (j : Nat) (h : j < s.size) : s.data.getD j 0 = s.data.toList[j]'(by simpa using h) := by
  have h' : j < s.data.size := h
  rw [Array.getD_eq_getD_getElem?, Array.getElem?_eq_getElem h']
  simp
theorem drop_cons1 (s : ByteArray) (j : Nat) (h : j < s.size) : s.data.toList.drop j = s.data.getD j 0 :: s.data.toList.drop (j + 1) := by
  rw [byte_at1 s j h]
  exact List.drop_eq_getElem_cons (by simpa using h)

abbrev rlO (t : RlS) (s : ByteArray) : Ob := .vec t.g 2 (encLs t.acc ++ [encL (t.a, s.extract t.a t.i)])

theorem rLines_calls (s : ByteArray) (hs : s.size ≤ 1099511627776) (σ : St) : HCalls Try.prog 7 [.str s] σ (fun d σ' => ∃ g, d = .vec σ.next g ∧ σ' = σ.new (.vec g 2 (encLs (itemsF s (begs s))))) := by
  refine hcalls_body (fn := Try.f7) rfl c7 (by simp [h7]) (by simp [h7, Try.f7]) ?_
  intro M hP hr hnt hnx hwf hlt
  simp only [h7, argEnv]
  refine hgo_sound 60 ?_
  simp -implicitDefEqProofs (maxSteps := 1000000) only [simpS, ↓condJ_true, ↓condJ_false, ↓reduceIte, Nat.reduceEqDiff, Nat.reduceLT, Nat.reduceLeDiff, reduceCtorEq, Nat.reduceAdd, Nat.reduceSub, bindG_none, addG_none, hgrpK_none, nestK_none, hgrpK_guarded, Option.map_none, beq_self_eq_true, bne_self_eq_false, Option.map_some, if_true, if_false, List.getD_cons_zero, List.getD_cons_succ, List.length_cons, List.length_nil, List.mem_cons, List.not_mem_nil, List.mem_append, List.nil_append, List.cons_append, List.append_nil, List.take_succ_cons, List.take_zero, List.drop_succ_cons, List.drop_zero, List.set_cons_zero, List.set_cons_succ, List.map_cons, List.map_nil, implies_true, forall_const, ne_eq]
  refine hx_know_code fun hw hl1 hn => ?_
  have hS : ∀ t : RlS, (σ.new (rlO t s)).wf := fun t => hwf.new (o := rlO t s) (by
    show ltX _ _
    rw [← encLs_snoc]
    exact encLs_lt _ _)
  refine hx_loop (S := RlS) (fun t => [(0, .str s), (3, .vec σ.next t.g), (4, .int .i64 t.i)]) (fun t => σ.new (rlO t s))
    (fun t => t.i ≤ s.size ∧ t.acc.length ≤ t.i ∧ t.a ≤ t.i ∧ t.a + lenTo (s.data.toList.drop t.a) = t.i + lenTo (s.data.toList.drop t.i) ∧ itemsF s (begs s) = t.acc ++ itemsF s (t.a :: begT t.i (s.data.toList.drop t.i))) (fun t => s.size - t.i) ⟨[], 0, 0, 0⟩
    ⟨Nat.zero_le _, Nat.le_refl _, Nat.le_refl _, rfl, rfl⟩ (fun _ _ h => by rw [hr] at h; cases h) ?_ ?_
  · have h0 : rlO ⟨[], 0, 0, 0⟩ s = .vec 0 2 [[.int .i64 0, .str ⟨#[]⟩]] := by simp only [rlO, ex_empty]; rfl
    rw [h0]
    refine Drop.all hw hn ⟨⟨rfl, trivial⟩, ⟨rfl, ?_⟩, ⟨rfl, trivial⟩, trivial⟩
    simp only [D.lt, St.next_new]; omega
  rintro ⟨acc, a, i, g⟩ ⟨h1, h0, h2, h3, h4⟩
  simp only at h0 h1 h2 h3 h4 ⊢
  refine hx_know_code fun hw1 hl2 hn1 => ?_
  by_cases hi : i < s.size
  · have hd : decide ((i : Int) < (s.size : Int)) = true := by simp [hi]
    have hi' : (i : Int) < (s.size : Int) := by omega
    rw [drop_cons1 s i hi] at h3 h4
    have hw2 : IntKind.i64.wrap ((i : Int) + 1) = ((i + 1 : Nat) : Int) := by rw [IntWalk.i64_in _ (by omega)]; rfl
    by_cases hb : s.data.getD i 0 = 10
    · have hb' : (((s.data.getD i 0).toNat : Int) == 10) = true := by rw [hb]; rfl
      have e1 : encLs acc ++ [encL (a, s.extract a i)] ++ [[.int .i64 ((i + 1 : Nat) : Int), .str ⟨#[]⟩]] = encLs (acc ++ [(a, s.extract a i)]) ++ [encL (i + 1, s.extract (i + 1) (i + 1))] := by
        rw [encLs_snoc, ex_empty]; rfl
      have hap : ((encLs acc ++ [encL (a, s.extract a i)]).length + 1) * 24 ≤ 140737488355328 ∧ (encLs acc ++ [encL (a, s.extract a i)]).length + 1 ≤ 9223372036854775807 := by
        simp only [List.length_append, encLs_length, List.length_cons, List.length_nil]; omega
      refine hgo_sound 60 ?_
      simp -implicitDefEqProofs (maxSteps := 1000000) only [simpS, ↓condJ_true, ↓condJ_false, ↓reduceIte, Nat.reduceEqDiff, Nat.reduceLT, Nat.reduceLeDiff, reduceCtorEq, Nat.reduceAdd, Nat.reduceSub, bindG_none, addG_none, hgrpK_none, nestK_none, hgrpK_guarded, Option.map_none, beq_self_eq_true, bne_self_eq_false, Option.map_some, if_true, if_false, List.getD_cons_zero, List.getD_cons_succ, List.length_cons, List.length_nil, List.mem_cons, List.not_mem_nil, List.mem_append, List.nil_append, List.cons_append, List.append_nil, List.take_succ_cons, List.take_zero, List.drop_succ_cons, List.drop_zero, List.set_cons_zero, List.set_cons_succ, List.map_cons, List.map_nil, implies_true, forall_const, ne_eq, hd, hi', hb', hw2, Int.toNat_natCast, Int.natCast_nonneg, e1, hap.1, hap.2]
      intro hw3 hl3 hn3
      simp only [lenTo, begT, hb, if_true] at h3 h4
      refine ⟨⟨acc ++ [(a, s.extract a i)], i + 1, i + 1, g + 1⟩, ⟨by simp only; omega, by simp only [List.length_append, List.length_cons, List.length_nil]; omega, Nat.le_refl _, rfl, ?_⟩, by simp only; omega, Drop.all hw3 hn3 ⟨⟨rfl, trivial⟩, ⟨rfl, by simp only [D.lt, St.next_new]; omega⟩, ⟨rfl, trivial⟩, trivial⟩⟩
      rw [h4]
      have : lnA s a = s.extract a i := by
        unfold lnA
        congr 1
      simp only [items_cons, this, List.append_assoc, List.cons_append, List.nil_append]
    · have hb' : (((s.data.getD i 0).toNat : Int) == 10) = false := by
        have : (s.data.getD i 0).toNat ≠ 10 := fun h => hb (UInt8.toNat_inj.1 h)
        simp only [beq_eq_false_iff_ne, ne_eq]
        omega
      have hlen : (encLs acc ++ [encL (a, s.extract a i)]).length = acc.length + 1 := by simp [encLs_length]
      have hg := snoc_get (encLs acc) (encL (a, s.extract a i)) []
      have hst : ∀ y, (encLs acc ++ [encL (a, s.extract a i)]).set acc.length y = encLs acc ++ [y] := fun y => by
        have := snoc_set (encLs acc) (encL (a, s.extract a i)) y
        rwa [encLs_length] at this
      rw [encLs_length] at hg
      have hw4 : IntKind.i64.wrap (((acc.length + 1 : Nat) : Int) - 1) = (acc.length : Int) := by rw [IntWalk.i64_in _ (by omega)]; omega
      have hlt1 : (acc.length : Int) < ((acc.length + 1 : Nat) : Int) := by omega
      have hle1 : (a : Int) ≤ ((i + 1 : Nat) : Int) := by omega
      have hle2 : ((i + 1 : Nat) : Int) ≤ (s.size : Int) := by omega
      simp only [encL] at hlen hg hst
      refine hgo_sound 90 ?_
      simp -implicitDefEqProofs (maxSteps := 1000000) only [simpS, ↓condJ_true, ↓condJ_false, ↓reduceIte, Nat.reduceEqDiff, Nat.reduceLT, Nat.reduceLeDiff, reduceCtorEq, Nat.reduceAdd, Nat.reduceSub, bindG_none, addG_none, hgrpK_none, nestK_none, hgrpK_guarded, Option.map_none, beq_self_eq_true, bne_self_eq_false, Option.map_some, if_true, if_false, List.getD_cons_zero, List.getD_cons_succ, List.length_cons, List.length_nil, List.mem_cons, List.not_mem_nil, List.mem_append, List.nil_append, List.cons_append, List.append_nil, List.take_succ_cons, List.take_zero, List.drop_succ_cons, List.drop_zero, List.set_cons_zero, List.set_cons_succ, List.map_cons, List.map_nil, implies_true, forall_const, ne_eq, hd, hi', hb', hw2, hw4, hlen, hg, hst, encL, hlt1, hle1, hle2, Int.toNat_natCast, Int.natCast_nonneg]
      intro hw3 hl3 hn3
      simp only [lenTo, begT, hb, if_false] at h3 h4
      refine ⟨⟨acc, a, i + 1, g⟩, ⟨by simp only; omega, by simp only; omega, by simp only; omega, by simp only; omega, h4⟩, by simp only; omega, Drop.all hw3 hn3 ⟨⟨rfl, trivial⟩, ⟨rfl, by simp only [D.lt, St.next_new]; omega⟩, ⟨rfl, trivial⟩, trivial⟩⟩
  · have hd : decide ((i : Int) < (s.size : Int)) = false := by simp [hi]
    have hii : i = s.size := by omega
    subst hii
    have hdr : s.data.toList.drop s.size = [] := List.drop_eq_nil_of_le (by simp)
    rw [hdr] at h3 h4
    simp only [lenTo, begT, items_cons, items_nil] at h3 h4
    have e1 : encLs acc ++ [encL (a, s.extract a s.size)] = encLs (itemsF s (begs s)) := by
      rw [h4, encLs_snoc]
      unfold lnA
      rw [h3]
      rfl
    have e2 : rlO ⟨acc, a, s.size, g⟩ s = .vec g 2 (encLs (itemsF s (begs s))) := by
      show Ob.vec _ _ _ = _
      rw [e1]
    refine hgo_sound 60 ?_
    simp -implicitDefEqProofs (maxSteps := 1000000) only [simpS, ↓condJ_true, ↓condJ_false, ↓reduceIte, Nat.reduceEqDiff, Nat.reduceLT, Nat.reduceLeDiff, reduceCtorEq, Nat.reduceAdd, Nat.reduceSub, bindG_none, addG_none, hgrpK_none, nestK_none, hgrpK_guarded, Option.map_none, beq_self_eq_true, bne_self_eq_false, Option.map_some, if_true, if_false, List.getD_cons_zero, List.getD_cons_succ, List.length_cons, List.length_nil, List.mem_cons, List.not_mem_nil, List.mem_append, List.nil_append, List.cons_append, List.append_nil, List.take_succ_cons, List.take_zero, List.drop_succ_cons, List.drop_zero, List.set_cons_zero, List.set_cons_succ, List.map_cons, List.map_nil, implies_true, forall_const, ne_eq, hd]
    rw [e2]
    exact fpost_keep (.inr rfl) rfl trivial (by intro h; simp only [tupD, look, D.lt, St.next_new, Nat.reduceEqDiff, if_false, if_true]; omega) (by intro hw; exact ⟨g, rfl, rfl⟩)

structure PlS where
  ln : Nat
  c : Nat
  i : Nat

def rPlaceD (s : ByteArray) (a : Int) : List D :=
  if 0 ≤ a ∧ a ≤ s.size then [.int .i64 ((plP s a.toNat).1 : Nat), .int .i64 ((plP s a.toNat).2 : Nat), .bool true] else [.int .i64 0, .int .i64 0, .bool false]

theorem rPlace_calls (s : ByteArray) (hs : s.size ≤ 1099511627776) (z : Int) (σ : St) : HCalls Try.prog 15 [.str s, .int .i64 z] σ (fun d σ' => d = .tuple (rPlaceD s z) ∧ σ' = σ) := by
  refine hcalls_body (fn := Try.f15) rfl c15 (by simp [h15]) (by simp [h15, Try.f15]) ?_
  intro M hP hr hnt hnx hwf hlt
  simp only [h15, argEnv]
  unfold rPlaceD
  by_cases hn : 0 ≤ z ∧ z ≤ s.size
  · obtain ⟨a, rfl⟩ : ∃ m : Nat, z = (m : Int) := ⟨z.toNat, by omega⟩
    have hd1 : decide ((a : Int) < 0) = false := by simp
    have hd2 : decide ((a : Int) > (s.size : Int)) = false := by simp; omega
    rw [if_pos hn, Int.toNat_natCast]
    refine hgo_sound 60 ?_
    simp -implicitDefEqProofs (maxSteps := 1000000) only [simpS, ↓condJ_true, ↓condJ_false, ↓reduceIte, Nat.reduceEqDiff, Nat.reduceLT, Nat.reduceLeDiff, reduceCtorEq, Nat.reduceAdd, Nat.reduceSub, bindG_none, addG_none, hgrpK_none, nestK_none, hgrpK_guarded, Option.map_none, beq_self_eq_true, bne_self_eq_false, Option.map_some, if_true, if_false, List.getD_cons_zero, List.getD_cons_succ, List.length_cons, List.length_nil, List.mem_cons, List.not_mem_nil, List.mem_append, List.nil_append, List.cons_append, List.append_nil, List.take_succ_cons, List.take_zero, List.drop_succ_cons, List.drop_zero, List.set_cons_zero, List.set_cons_succ, List.map_cons, List.map_nil, implies_true, forall_const, ne_eq, hd1, hd2]
    refine hx_know_code fun hw hl1 hn1 => ?_
    refine hx_loop (S := PlS) (fun t => [(0, .str s), (1, .int .i64 a), (7, .int .i64 t.ln), (8, .int .i64 t.c), (9, .int .i64 t.i)]) (fun t => σ)
      (fun t => t.i ≤ a ∧ t.ln ≤ t.i ∧ t.c ≤ t.i ∧ plA (a - t.i) (s.data.toList.drop t.i) (t.ln, t.c) = plP s a) (fun t => a - t.i) ⟨0, 0, 0⟩
      ⟨Nat.zero_le _, Nat.le_refl _, Nat.le_refl _, rfl⟩ (fun _ _ h => by rw [hr] at h; cases h) ?_ ?_
    · exact Drop.all hw hn1 ⟨⟨rfl, trivial⟩, ⟨rfl, trivial⟩, ⟨rfl, trivial⟩, ⟨rfl, trivial⟩, ⟨rfl, trivial⟩, trivial⟩
    rintro ⟨ln, c, i⟩ ⟨h1, h2, h3, h4⟩
    simp only at h1 h2 h3 h4 ⊢
    by_cases hi : i < a
    · have hd : decide ((i : Int) < (a : Int)) = true := by simp [hi]
      have hi' : (i : Int) < (s.size : Int) := by omega
      have hw2 : IntKind.i64.wrap ((i : Int) + 1) = ((i + 1 : Nat) : Int) := by rw [IntWalk.i64_in _ (by omega)]; rfl
      have hw3 : IntKind.i64.wrap ((ln : Int) + 1) = ((ln + 1 : Nat) : Int) := by rw [IntWalk.i64_in _ (by omega)]; rfl
      have hw4 : IntKind.i64.wrap ((c : Int) + 1) = ((c + 1 : Nat) : Int) := by rw [IntWalk.i64_in _ (by omega)]; rfl
      rw [drop_cons1 s i (by omega), show a - i = (a - (i + 1)) + 1 by omega] at h4
      by_cases hb : s.data.getD i 0 = 10
      · have hb' : (((s.data.getD i 0).toNat : Int) == 10) = true := by rw [hb]; rfl
        simp only [plA, hb, if_true] at h4
        refine hgo_sound 60 ?_
        simp -implicitDefEqProofs (maxSteps := 1000000) only [simpS, ↓condJ_true, ↓condJ_false, ↓reduceIte, Nat.reduceEqDiff, Nat.reduceLT, Nat.reduceLeDiff, reduceCtorEq, Nat.reduceAdd, Nat.reduceSub, bindG_none, addG_none, hgrpK_none, nestK_none, hgrpK_guarded, Option.map_none, beq_self_eq_true, bne_self_eq_false, Option.map_some, if_true, if_false, List.getD_cons_zero, List.getD_cons_succ, List.length_cons, List.length_nil, List.mem_cons, List.not_mem_nil, List.mem_append, List.nil_append, List.cons_append, List.append_nil, List.take_succ_cons, List.take_zero, List.drop_succ_cons, List.drop_zero, List.set_cons_zero, List.set_cons_succ, List.map_cons, List.map_nil, implies_true, forall_const, ne_eq, hd, hi', hb', hw2, hw3, hw4, Int.toNat_natCast, Int.natCast_nonneg]
        intro hw5 hl5 hn5
        refine ⟨⟨ln + 1, 0, i + 1⟩, ⟨by simp only; omega, by simp only; omega, by simp only; omega, h4⟩, by simp only; omega, Drop.all hw5 hn5 ⟨⟨rfl, trivial⟩, ⟨rfl, trivial⟩, ⟨rfl, trivial⟩, ⟨rfl, trivial⟩, ⟨rfl, trivial⟩, trivial⟩⟩
      · have hb' : (((s.data.getD i 0).toNat : Int) == 10) = false := by
          have : (s.data.getD i 0).toNat ≠ 10 := fun h => hb (UInt8.toNat_inj.1 h)
          simp only [beq_eq_false_iff_ne, ne_eq]
          omega
        simp only [plA, hb, if_false] at h4
        refine hgo_sound 60 ?_
        simp -implicitDefEqProofs (maxSteps := 1000000) only [simpS, ↓condJ_true, ↓condJ_false, ↓reduceIte, Nat.reduceEqDiff, Nat.reduceLT, Nat.reduceLeDiff, reduceCtorEq, Nat.reduceAdd, Nat.reduceSub, bindG_none, addG_none, hgrpK_none, nestK_none, hgrpK_guarded, Option.map_none, beq_self_eq_true, bne_self_eq_false, Option.map_some, if_true, if_false, List.getD_cons_zero, List.getD_cons_succ, List.length_cons, List.length_nil, List.mem_cons, List.not_mem_nil, List.mem_append, List.nil_append, List.cons_append, List.append_nil, List.take_succ_cons, List.take_zero, List.drop_succ_cons, List.drop_zero, List.set_cons_zero, List.set_cons_succ, List.map_cons, List.map_nil, implies_true, forall_const, ne_eq, hd, hi', hb', hw2, hw3, hw4, Int.toNat_natCast, Int.natCast_nonneg]
        intro hw5 hl5 hn5
        refine ⟨⟨ln, c + 1, i + 1⟩, ⟨by simp only; omega, by simp only; omega, by simp only; omega, h4⟩, by simp only; omega, Drop.all hw5 hn5 ⟨⟨rfl, trivial⟩, ⟨rfl, trivial⟩, ⟨rfl, trivial⟩, ⟨rfl, trivial⟩, ⟨rfl, trivial⟩, trivial⟩⟩
    · have hd : decide ((i : Int) < (a : Int)) = false := by simp [hi]
      rw [show a - i = 0 by omega] at h4
      simp only [plA] at h4
      rw [← h4]
      refine hgo_sound 60 ?_
      simp -implicitDefEqProofs (maxSteps := 1000000) only [simpS, ↓condJ_true, ↓condJ_false, ↓reduceIte, Nat.reduceEqDiff, Nat.reduceLT, Nat.reduceLeDiff, reduceCtorEq, Nat.reduceAdd, Nat.reduceSub, bindG_none, addG_none, hgrpK_none, nestK_none, hgrpK_guarded, Option.map_none, beq_self_eq_true, bne_self_eq_false, Option.map_some, if_true, if_false, List.getD_cons_zero, List.getD_cons_succ, List.length_cons, List.length_nil, List.mem_cons, List.not_mem_nil, List.mem_append, List.nil_append, List.cons_append, List.append_nil, List.take_succ_cons, List.take_zero, List.drop_succ_cons, List.drop_zero, List.set_cons_zero, List.set_cons_succ, List.map_cons, List.map_nil, implies_true, forall_const, ne_eq, hd]
      exact fpost_pure (σ0 := σ) (.inr rfl) (by rw [hnx]; exact Nat.le_refl _) hwf (by first | exact Sub.refl σ | exact (((Ext.refl _).new _).sub hwf)) rfl trivial (by repeat' (first | trivial | apply And.intro)) ⟨rfl, rfl⟩
  · rw [if_neg hn]
    by_cases hc0 : z < 0
    · have hd1 : decide (z < 0) = true := by simp [hc0]
      refine hgo_sound 60 ?_
      simp -implicitDefEqProofs (maxSteps := 1000000) only [simpS, ↓condJ_true, ↓condJ_false, ↓reduceIte, Nat.reduceEqDiff, Nat.reduceLT, Nat.reduceLeDiff, reduceCtorEq, Nat.reduceAdd, Nat.reduceSub, bindG_none, addG_none, hgrpK_none, nestK_none, hgrpK_guarded, Option.map_none, beq_self_eq_true, bne_self_eq_false, Option.map_some, if_true, if_false, List.getD_cons_zero, List.getD_cons_succ, List.length_cons, List.length_nil, List.mem_cons, List.not_mem_nil, List.mem_append, List.nil_append, List.cons_append, List.append_nil, List.take_succ_cons, List.take_zero, List.drop_succ_cons, List.drop_zero, List.set_cons_zero, List.set_cons_succ, List.map_cons, List.map_nil, implies_true, forall_const, ne_eq, hd1]
      exact fpost_pure (σ0 := σ) (.inr rfl) (by rw [hnx]; exact Nat.le_refl _) hwf (by first | exact Sub.refl σ | exact (((Ext.refl _).new _).sub hwf)) rfl trivial (by repeat' (first | trivial | apply And.intro)) ⟨rfl, rfl⟩
    · have hd1 : decide (z < 0) = false := by simp [hc0]
      have hd2 : decide (z > (s.size : Int)) = true := by simp; omega
      refine hgo_sound 60 ?_
      simp -implicitDefEqProofs (maxSteps := 1000000) only [simpS, ↓condJ_true, ↓condJ_false, ↓reduceIte, Nat.reduceEqDiff, Nat.reduceLT, Nat.reduceLeDiff, reduceCtorEq, Nat.reduceAdd, Nat.reduceSub, bindG_none, addG_none, hgrpK_none, nestK_none, hgrpK_guarded, Option.map_none, beq_self_eq_true, bne_self_eq_false, Option.map_some, if_true, if_false, List.getD_cons_zero, List.getD_cons_succ, List.length_cons, List.length_nil, List.mem_cons, List.not_mem_nil, List.mem_append, List.nil_append, List.cons_append, List.append_nil, List.take_succ_cons, List.take_zero, List.drop_succ_cons, List.drop_zero, List.set_cons_zero, List.set_cons_succ, List.map_cons, List.map_nil, implies_true, forall_const, ne_eq, hd1, hd2]
      exact fpost_pure (σ0 := σ) (.inr rfl) (by rw [hnx]; exact Nat.le_refl _) hwf (by first | exact Sub.refl σ | exact (((Ext.refl _).new _).sub hwf)) rfl trivial (by repeat' (first | trivial | apply And.intro)) ⟨rfl, rfl⟩

theorem plP_iff (s : ByteArray) (x l c : Nat) (hx : x ≤ s.size) : (plP s x = (l, c)) ↔ (l < (begs s).length ∧ c ≤ lnN s l ∧ x = (begs s).getD l 0 + c) := by
  constructor
  · intro h
    obtain ⟨p, hp⟩ := isAt_ex s x
    have h1 := plP_at hx hp
    rw [h1] at h
    injection h with e1 e2
    subst e1
    have := col_le hx hp
    have := hp.le
    exact ⟨hp.lt, by omega, by omega⟩
  · rintro ⟨h1, h2, rfl⟩
    obtain ⟨h3, h4⟩ := place_of s l c h1 h2
    rw [plP_at h4 h3]
    congr 1
    omega

def rAtD (s : ByteArray) (l c : Int) : List D :=
  if 0 ≤ l ∧ l < (begs s).length ∧ 0 ≤ c ∧ c ≤ lnN s l.toNat then [.int .i64 ((begs s).getD l.toNat 0 + c.toNat : Nat), .bool true] else [.int .i64 0, .bool false]

structure RaS where
  i : Nat

theorem rAt_calls (s : ByteArray) (hs : s.size ≤ 1099511627776) (l c : Int) (σ : St) : HCalls Try.prog 17 [.str s, .int .i64 l, .int .i64 c] σ (fun d σ' => d = .tuple (rAtD s l c) ∧ σ' = σ) := by
  refine hcalls_body (fn := Try.f17) rfl c17 (by simp [h17]) (by simp [h17, Try.f17]) ?_
  intro M hP hr hnt hnx hwf hlt
  simp only [h17, argEnv]
  have key : ∀ i : Nat, i ≤ s.size → ((((plP s i).1 : Int) = l ∧ ((plP s i).2 : Int) = c) ↔ ((0 ≤ l ∧ l < (begs s).length ∧ 0 ≤ c ∧ c ≤ lnN s l.toNat) ∧ i = (begs s).getD l.toNat 0 + c.toNat)) := by
    intro i hi
    constructor
    · rintro ⟨rfl, rfl⟩
      have := (plP_iff s i (plP s i).1 (plP s i).2 hi).1 rfl
      simp only [Int.toNat_natCast]
      omega
    · rintro ⟨⟨a1, a2, a3, a4⟩, a5⟩
      have := (plP_iff s i l.toNat c.toNat hi).2 ⟨by omega, by omega, a5⟩
      rw [this]
      simp only
      omega
  refine hgo_sound 60 ?_
  simp -implicitDefEqProofs (maxSteps := 1000000) only [simpS, ↓condJ_true, ↓condJ_false, ↓reduceIte, Nat.reduceEqDiff, Nat.reduceLT, Nat.reduceLeDiff, reduceCtorEq, Nat.reduceAdd, Nat.reduceSub, bindG_none, addG_none, hgrpK_none, nestK_none, hgrpK_guarded, Option.map_none, beq_self_eq_true, bne_self_eq_false, Option.map_some, if_true, if_false, List.getD_cons_zero, List.getD_cons_succ, List.length_cons, List.length_nil, List.mem_cons, List.not_mem_nil, List.mem_append, List.nil_append, List.cons_append, List.append_nil, List.take_succ_cons, List.take_zero, List.drop_succ_cons, List.drop_zero, List.set_cons_zero, List.set_cons_succ, List.map_cons, List.map_nil, implies_true, forall_const, ne_eq]
  refine hx_know_code fun hw hl1 hn1 => ?_
  refine hx_loop (S := RaS) (fun t => [(0, .str s), (1, .int .i64 l), (2, .int .i64 c), (8, .int .i64 t.i)]) (fun t => σ)
    (fun t => t.i ≤ s.size + 1 ∧ ∀ q, q < t.i → ¬ (((plP s q).1 : Int) = l ∧ ((plP s q).2 : Int) = c)) (fun t => s.size + 1 - t.i) ⟨0⟩
    ⟨Nat.zero_le _, (fun q h => absurd h (Nat.not_lt_zero _))⟩ (fun _ _ h => by rw [hr] at h; cases h) ?_ ?_
  · exact Drop.all hw hn1 ⟨⟨rfl, trivial⟩, ⟨rfl, trivial⟩, ⟨rfl, trivial⟩, ⟨rfl, trivial⟩, trivial⟩
  rintro ⟨i⟩ ⟨h1, h2⟩
  simp only at h1 h2 ⊢
  by_cases hi : i ≤ s.size
  · have hd : decide ((i : Int) ≤ (s.size : Int)) = true := by simp [hi]
    have hw2 : IntKind.i64.wrap ((i : Int) + 1) = ((i + 1 : Nat) : Int) := by rw [IntWalk.i64_in _ (by omega)]; rfl
    have hpd : rPlaceD s i = [.int .i64 ((plP s i).1 : Nat), .int .i64 ((plP s i).2 : Nat), .bool true] := by unfold rPlaceD; rw [if_pos ⟨by omega, by omega⟩, Int.toNat_natCast]
    refine hgo_sound 60 ?_
    simp -implicitDefEqProofs (maxSteps := 1000000) only [simpS, ↓condJ_true, ↓condJ_false, ↓reduceIte, Nat.reduceEqDiff, Nat.reduceLT, Nat.reduceLeDiff, reduceCtorEq, Nat.reduceAdd, Nat.reduceSub, bindG_none, addG_none, hgrpK_none, nestK_none, hgrpK_guarded, Option.map_none, beq_self_eq_true, bne_self_eq_false, Option.map_some, if_true, if_false, List.getD_cons_zero, List.getD_cons_succ, List.length_cons, List.length_nil, List.mem_cons, List.not_mem_nil, List.mem_append, List.nil_append, List.cons_append, List.append_nil, List.take_succ_cons, List.take_zero, List.drop_succ_cons, List.drop_zero, List.set_cons_zero, List.set_cons_succ, List.map_cons, List.map_nil, implies_true, forall_const, ne_eq, hd]
    refine hx_call (f := .fn 15) rfl (by rw [hP]; exact hcallD_func (rPlace_calls s hs i _)) ?_
    rintro _ σ2 ⟨rfl, h⟩
    subst σ2
    rw [hpd]
    by_cases hq : ((plP s i).1 : Int) = l ∧ ((plP s i).2 : Int) = c
    · obtain ⟨k1, k2⟩ := (key i hi).1 hq
      have b1 : (((plP s i).1 : Int) == l) = true := by simp [hq.1]
      have b2 : (((plP s i).2 : Int) == c) = true := by simp [hq.2]
      refine hgo_sound 60 ?_
      simp -implicitDefEqProofs (maxSteps := 1000000) only [simpS, ↓condJ_true, ↓condJ_false, ↓reduceIte, Nat.reduceEqDiff, Nat.reduceLT, Nat.reduceLeDiff, reduceCtorEq, Nat.reduceAdd, Nat.reduceSub, bindG_none, addG_none, hgrpK_none, nestK_none, hgrpK_guarded, Option.map_none, beq_self_eq_true, bne_self_eq_false, Option.map_some, if_true, if_false, List.getD_cons_zero, List.getD_cons_succ, List.length_cons, List.length_nil, List.mem_cons, List.not_mem_nil, List.mem_append, List.nil_append, List.cons_append, List.append_nil, List.take_succ_cons, List.take_zero, List.drop_succ_cons, List.drop_zero, List.set_cons_zero, List.set_cons_succ, List.map_cons, List.map_nil, implies_true, forall_const, ne_eq, b1, b2]
      unfold rAtD
      rw [if_pos k1, ← k2]
      exact fpost_pure (σ0 := σ) (.inr rfl) (by rw [hnx]; exact Nat.le_refl _) hwf (by first | exact Sub.refl σ | exact (((Ext.refl _).new _).sub hwf)) rfl trivial (by repeat' (first | trivial | apply And.intro)) ⟨rfl, rfl⟩
    · have next : ∀ q, q < i + 1 → ¬ (((plP s q).1 : Int) = l ∧ ((plP s q).2 : Int) = c) := fun q h => by
        rcases Nat.lt_or_ge q i with h' | h'
        · exact h2 q h'
        · rw [show q = i by omega]; exact hq
      by_cases q1 : ((plP s i).1 : Int) = l
      · have b1 : (((plP s i).1 : Int) == l) = true := by simp [q1]
        have b2 : (((plP s i).2 : Int) == c) = false := by simp; omega
        refine hgo_sound 60 ?_
        simp -implicitDefEqProofs (maxSteps := 1000000) only [simpS, ↓condJ_true, ↓condJ_false, ↓reduceIte, Nat.reduceEqDiff, Nat.reduceLT, Nat.reduceLeDiff, reduceCtorEq, Nat.reduceAdd, Nat.reduceSub, bindG_none, addG_none, hgrpK_none, nestK_none, hgrpK_guarded, Option.map_none, beq_self_eq_true, bne_self_eq_false, Option.map_some, if_true, if_false, List.getD_cons_zero, List.getD_cons_succ, List.length_cons, List.length_nil, List.mem_cons, List.not_mem_nil, List.mem_append, List.nil_append, List.cons_append, List.append_nil, List.take_succ_cons, List.take_zero, List.drop_succ_cons, List.drop_zero, List.set_cons_zero, List.set_cons_succ, List.map_cons, List.map_nil, implies_true, forall_const, ne_eq, b1, b2, hw2]
        intro hw5 hl5 hn5
        refine ⟨⟨i + 1⟩, ⟨by simp only; omega, next⟩, by simp only; omega, Drop.all hw5 hn5 ⟨⟨rfl, trivial⟩, ⟨rfl, trivial⟩, ⟨rfl, trivial⟩, ⟨rfl, trivial⟩, trivial⟩⟩
      · have b1 : (((plP s i).1 : Int) == l) = false := by simp [q1]
        refine hgo_sound 60 ?_
        simp -implicitDefEqProofs (maxSteps := 1000000) only [simpS, ↓condJ_true, ↓condJ_false, ↓reduceIte, Nat.reduceEqDiff, Nat.reduceLT, Nat.reduceLeDiff, reduceCtorEq, Nat.reduceAdd, Nat.reduceSub, bindG_none, addG_none, hgrpK_none, nestK_none, hgrpK_guarded, Option.map_none, beq_self_eq_true, bne_self_eq_false, Option.map_some, if_true, if_false, List.getD_cons_zero, List.getD_cons_succ, List.length_cons, List.length_nil, List.mem_cons, List.not_mem_nil, List.mem_append, List.nil_append, List.cons_append, List.append_nil, List.take_succ_cons, List.take_zero, List.drop_succ_cons, List.drop_zero, List.set_cons_zero, List.set_cons_succ, List.map_cons, List.map_nil, implies_true, forall_const, ne_eq, b1, hw2]
        intro hw5 hl5 hn5
        refine ⟨⟨i + 1⟩, ⟨by simp only; omega, next⟩, by simp only; omega, Drop.all hw5 hn5 ⟨⟨rfl, trivial⟩, ⟨rfl, trivial⟩, ⟨rfl, trivial⟩, ⟨rfl, trivial⟩, trivial⟩⟩
  · have hd : decide ((i : Int) ≤ (s.size : Int)) = false := by simp [hi]
    refine hgo_sound 60 ?_
    simp -implicitDefEqProofs (maxSteps := 1000000) only [simpS, ↓condJ_true, ↓condJ_false, ↓reduceIte, Nat.reduceEqDiff, Nat.reduceLT, Nat.reduceLeDiff, reduceCtorEq, Nat.reduceAdd, Nat.reduceSub, bindG_none, addG_none, hgrpK_none, nestK_none, hgrpK_guarded, Option.map_none, beq_self_eq_true, bne_self_eq_false, Option.map_some, if_true, if_false, List.getD_cons_zero, List.getD_cons_succ, List.length_cons, List.length_nil, List.mem_cons, List.not_mem_nil, List.mem_append, List.nil_append, List.cons_append, List.append_nil, List.take_succ_cons, List.take_zero, List.drop_succ_cons, List.drop_zero, List.set_cons_zero, List.set_cons_succ, List.map_cons, List.map_nil, implies_true, forall_const, ne_eq, hd]
    unfold rAtD
    rw [if_neg (fun k => by
      obtain ⟨a1, a2, a3, a4⟩ := k
      have hp := place_of s l.toNat c.toNat (by omega) (by omega)
      exact h2 _ (by omega) ((key _ hp.2).2 ⟨⟨a1, a2, a3, a4⟩, rfl⟩))]
    exact fpost_pure (σ0 := σ) (.inr rfl) (by rw [hnx]; exact Nat.le_refl _) hwf (by first | exact Sub.refl σ | exact (((Ext.refl _).new _).sub hwf)) rfl trivial (by repeat' (first | trivial | apply And.intro)) ⟨rfl, rfl⟩

end Go.Hl
