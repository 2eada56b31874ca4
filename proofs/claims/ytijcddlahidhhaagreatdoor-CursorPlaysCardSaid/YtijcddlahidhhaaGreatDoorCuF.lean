/-
  Layer 8: the document's cursor.
-/
import Derived.Test.YtijcddlahidhhaaGreatDoorCuC
set_option linter.unusedSectionVars false
set_option linter.unusedVariables false
set_option linter.unusedSimpArgs false
set_option maxRecDepth 100000
namespace Go.Hl
open Go Go.Proofs Go.RowKit

abbrev encR (c : Cu) : List D := [.str c.s, .slice .no 3 (encTk c.L), .int .i64 (c.n : Int), .int .i64 (c.dp : Int), .int .i64 (c.at_ : Int), .int .i64 (c.er : Int)]
theorem encR_lt (c : Cu) (n : Nat) : ltL n (encR c) := ⟨trivial, ⟨trivial, encTk_lt _ _⟩, trivial, trivial, trivial, trivial, trivial⟩

theorem rleft_calls (c : Cu) (hc : c.ok) (σ : St) : HCalls Tryz.prog 35 [.agg (encR c)] σ (fun d σ' => d = .int .i64 (leftC c : Int) ∧ σ' = σ) := by
  refine hcalls_body (fn := Tryz.f35) rfl c35 (by simp [h35]) (by simp [h35, Tryz.f35]) ?_
  intro M hP hr hnt hnx hwf hlt
  simp only [h35, argEnv]
  have hnt' : M.nt = 12 := hnt
  have hnx2 := hc.next
  by_cases he : c.er = 0
  · have e1 : ((c.er : Int) != 0) = false := by rw [he]; rfl
    have hw : IntKind.i64.wrap ((c.L.length : Int) - (c.n : Int)) = ((c.L.length - c.n : Nat) : Int) := by
      have := hc.len; have := hc.small
      rw [IntWalk.i64_in _ (by omega)]; omega
    have hl : leftC c = c.L.length - c.n := by unfold leftC; rw [if_pos he]
    rw [hl]
    refine hgo_sound 60 ?_
    simp -implicitDefEqProofs (maxSteps := 1000000) only [simpS, ↓condJ_true, ↓condJ_false, ↓reduceIte, Nat.reduceEqDiff, Nat.reduceLT, Nat.reduceLeDiff, reduceCtorEq, Nat.reduceAdd, Nat.reduceSub, bindG_none, addG_none, hgrpK_none, nestK_none, hgrpK_guarded, Option.map_none, beq_self_eq_true, bne_self_eq_false, Option.map_some, if_true, if_false, List.getD_cons_zero, List.getD_cons_succ, List.length_cons, List.length_nil, List.mem_cons, List.not_mem_nil, List.mem_append, List.nil_append, List.cons_append, List.append_nil, List.take_succ_cons, List.take_zero, List.drop_succ_cons, List.drop_zero, List.set_cons_zero, List.set_cons_succ, List.map_cons, List.map_nil, implies_true, forall_const, ne_eq, e1, encTk_length, hw]
    exact fpost_pure (σ0 := σ) (.inr rfl) (by rw [hnx]; exact Nat.le_refl _) hwf (by first | exact Sub.refl σ | exact (((Ext.refl _).new _).sub hwf)) rfl trivial (by repeat' (first | trivial | apply And.intro)) ⟨rfl, rfl⟩
  · have e1 : ((c.er : Int) != 0) = true := by simp; omega
    have hl : leftC c = 0 := by unfold leftC; rw [if_neg he]
    rw [hl]
    refine hgo_sound 60 ?_
    simp -implicitDefEqProofs (maxSteps := 1000000) only [simpS, ↓condJ_true, ↓condJ_false, ↓reduceIte, Nat.reduceEqDiff, Nat.reduceLT, Nat.reduceLeDiff, reduceCtorEq, Nat.reduceAdd, Nat.reduceSub, bindG_none, addG_none, hgrpK_none, nestK_none, hgrpK_guarded, Option.map_none, beq_self_eq_true, bne_self_eq_false, Option.map_some, if_true, if_false, List.getD_cons_zero, List.getD_cons_succ, List.length_cons, List.length_nil, List.mem_cons, List.not_mem_nil, List.mem_append, List.nil_append, List.cons_append, List.append_nil, List.take_succ_cons, List.take_zero, List.drop_succ_cons, List.drop_zero, List.set_cons_zero, List.set_cons_succ, List.map_cons, List.map_nil, implies_true, forall_const, ne_eq, e1]
    exact fpost_pure (σ0 := σ) (.inr rfl) (by rw [hnx]; exact Nat.le_refl _) hwf (by first | exact Sub.refl σ | exact (((Ext.refl _).new _).sub hwf)) rfl trivial (by repeat' (first | trivial | apply And.intro)) ⟨rfl, rfl⟩

theorem rpeek_calls (c : Cu) (hc : c.ok) (a : Int) (σ : St) : HCalls Tryz.prog 25 [.agg (encR c), .int .i64 a] σ (fun d σ' => d = .tuple [.int .i64 ((peekC c a).1 : Int), .str (peekC c a).2] ∧ σ' = σ) := by
  refine hcalls_body (fn := Tryz.f25) rfl c25 (by simp [h25]) (by simp [h25, Tryz.f25]) ?_
  intro M hP hr hnt hnx hwf hlt
  simp only [h25, argEnv]
  have hnt' : M.nt = 34 := hnt
  refine hgo_sound 60 ?_
  simp -implicitDefEqProofs (maxSteps := 1000000) only [simpS, ↓condJ_true, ↓condJ_false, ↓reduceIte, Nat.reduceEqDiff, Nat.reduceLT, Nat.reduceLeDiff, reduceCtorEq, Nat.reduceAdd, Nat.reduceSub, bindG_none, addG_none, hgrpK_none, nestK_none, hgrpK_guarded, Option.map_none, beq_self_eq_true, bne_self_eq_false, Option.map_some, if_true, if_false, List.getD_cons_zero, List.getD_cons_succ, List.length_cons, List.length_nil, List.mem_cons, List.not_mem_nil, List.mem_append, List.nil_append, List.cons_append, List.append_nil, List.take_succ_cons, List.take_zero, List.drop_succ_cons, List.drop_zero, List.set_cons_zero, List.set_cons_succ, List.map_cons, List.map_nil, implies_true, forall_const, ne_eq]
  refine hx_know_code fun hw hl1 hn => ?_
  refine hx_loop (S := Nat) (fun i => [(1, .int .i64 a), (2, .ptr σ.next 0), (6, .int .i64 (i : Int))]) (fun i => σ.new (.box (encR c)))
    (fun i => i ≤ leftC c ∧ ∀ j : Nat, j < i → (j : Int) ≠ a) (fun i => leftC c - i) 0 ⟨Nat.zero_le _, fun j h => by omega⟩ (fun _ _ h => by rw [hr] at h; cases h) ?_ ?_
  · exact Drop.all hw hn ⟨⟨rfl, trivial⟩, ⟨rfl, hl1 2⟩, ⟨rfl, trivial⟩, trivial⟩
  rintro i ⟨hi1, hi2⟩
  have hll : leftC c ≤ 4000 := by unfold leftC; have := hc.len; have := hc.small; split <;> omega
  refine hgo_sound 60 ?_
  simp -implicitDefEqProofs (maxSteps := 1000000) only [simpS, ↓condJ_true, ↓condJ_false, ↓reduceIte, Nat.reduceEqDiff, Nat.reduceLT, Nat.reduceLeDiff, reduceCtorEq, Nat.reduceAdd, Nat.reduceSub, bindG_none, addG_none, hgrpK_none, nestK_none, hgrpK_guarded, Option.map_none, beq_self_eq_true, bne_self_eq_false, Option.map_some, if_true, if_false, List.getD_cons_zero, List.getD_cons_succ, List.length_cons, List.length_nil, List.mem_cons, List.not_mem_nil, List.mem_append, List.nil_append, List.cons_append, List.append_nil, List.take_succ_cons, List.take_zero, List.drop_succ_cons, List.drop_zero, List.set_cons_zero, List.set_cons_succ, List.map_cons, List.map_nil, implies_true, forall_const, ne_eq]
  refine hx_call (f := .fn 35) rfl (by rw [hP]; exact hcallD_func (rleft_calls c hc _)) ?_
  rintro _ σ2 ⟨rfl, h⟩
  subst σ2
  by_cases hi : i < leftC c
  · have d1 : decide ((i : Int) < (leftC c : Int)) = true := decide_eq_true (by omega)
    have hwi : IntKind.i64.wrap ((i : Int) + 1) = ((i + 1 : Nat) : Int) := by rw [IntWalk.i64_in _ (by omega)]; rfl
    by_cases ha : (i : Int) = a
    · subst ha
      have e1 : ((i : Int) == (i : Int)) = true := by simp
      obtain ⟨he, hj⟩ := leftC_lt (c := c) (j := i) hi
      have hg := encTk_get c.L (c.n + i) hj
      have hw : IntKind.i64.wrap ((c.n : Int) + (i : Int)) = ((c.n + i : Nat) : Int) := by
        have := hc.len; have := hc.small
        rw [IntWalk.i64_in _ (by omega)]; rfl
      have hlt2 : ((c.n + i : Nat) : Int) < (c.L.length : Int) := by omega
      have hx := hc.in_ c.L[c.n + i] (List.getElem_mem _)
      have hgd : c.L.getD (c.n + i) ⟨0, 0, 0⟩ = c.L[c.n + i] := by simp [List.getD, hj]
      have hp : peekC c (i : Int) = (c.L[c.n + i].k, textT c.s c.L[c.n + i]) := by unfold peekC; rw [if_pos ⟨by omega, by omega⟩, Int.toNat_natCast, hgd]
      have ht : textT c.s c.L[c.n + i] = c.s.extract c.L[c.n + i].f c.L[c.n + i].t := rfl
      rw [hp, ht]
      generalize c.L[c.n + i] = x at *
      have p1 : (x.t : Int) ≤ (c.s.size : Int) := by omega
      have p2 : (x.f : Int) ≤ (x.t : Int) := by omega
      refine hgo_sound 60 ?_
      simp -implicitDefEqProofs (maxSteps := 1000000) only [simpS, ↓condJ_true, ↓condJ_false, ↓reduceIte, Nat.reduceEqDiff, Nat.reduceLT, Nat.reduceLeDiff, reduceCtorEq, Nat.reduceAdd, Nat.reduceSub, bindG_none, addG_none, hgrpK_none, nestK_none, hgrpK_guarded, Option.map_none, beq_self_eq_true, bne_self_eq_false, Option.map_some, if_true, if_false, List.getD_cons_zero, List.getD_cons_succ, List.length_cons, List.length_nil, List.mem_cons, List.not_mem_nil, List.mem_append, List.nil_append, List.cons_append, List.append_nil, List.take_succ_cons, List.take_zero, List.drop_succ_cons, List.drop_zero, List.set_cons_zero, List.set_cons_succ, List.map_cons, List.map_nil, implies_true, forall_const, ne_eq, d1, hw, hg, hlt2, encTk_length, Int.toNat_natCast, Int.natCast_nonneg]
      refine hx_drawgo 1 ?_
      simp -implicitDefEqProofs (maxSteps := 100000000) only [drawS, List.map_cons, List.map_nil, List.getElem?_cons_zero, List.getElem?_cons_succ, List.getElem?_nil, simpS, ↓condJ_true, ↓condJ_false, ↓reduceIte, Nat.reduceEqDiff, Nat.reduceLT, Nat.reduceLeDiff, reduceCtorEq, Nat.reduceAdd, Nat.reduceSub, bindG_none, addG_none, hgrpK_none, nestK_none, hgrpK_guarded, Option.map_none, beq_self_eq_true, bne_self_eq_false, Option.map_some, if_true, if_false, List.getD_cons_zero, List.getD_cons_succ, List.length_cons, List.length_nil, List.mem_cons, List.not_mem_nil, List.mem_append, List.nil_append, List.cons_append, List.append_nil, List.take_succ_cons, List.take_zero, List.drop_succ_cons, List.drop_zero, List.set_cons_zero, List.set_cons_succ, List.map_cons, List.map_nil, implies_true, forall_const, ne_eq, hnt', p1, p2, Int.toNat_natCast, Int.natCast_nonneg]
      refine hgo_sound 60 ?_
      simp -implicitDefEqProofs (maxSteps := 1000000) only [simpS, ↓condJ_true, ↓condJ_false, ↓reduceIte, Nat.reduceEqDiff, Nat.reduceLT, Nat.reduceLeDiff, reduceCtorEq, Nat.reduceAdd, Nat.reduceSub, bindG_none, addG_none, hgrpK_none, nestK_none, hgrpK_guarded, Option.map_none, beq_self_eq_true, bne_self_eq_false, Option.map_some, if_true, if_false, List.getD_cons_zero, List.getD_cons_succ, List.length_cons, List.length_nil, List.mem_cons, List.not_mem_nil, List.mem_append, List.nil_append, List.cons_append, List.append_nil, List.take_succ_cons, List.take_zero, List.drop_succ_cons, List.drop_zero, List.set_cons_zero, List.set_cons_succ, List.map_cons, List.map_nil, implies_true, forall_const, ne_eq]
      exact fpost_pure (σ0 := σ) (.inr rfl) (by rw [hnx]; exact Nat.le_refl _) hwf ((((Ext.refl _).new _).new _).sub hwf) rfl trivial ⟨trivial, trivial, trivial⟩ ⟨rfl, rfl⟩
    · have e1 : ((i : Int) == a) = false := by simpa using ha
      refine hgo_sound 60 ?_
      simp -implicitDefEqProofs (maxSteps := 1000000) only [simpS, ↓condJ_true, ↓condJ_false, ↓reduceIte, Nat.reduceEqDiff, Nat.reduceLT, Nat.reduceLeDiff, reduceCtorEq, Nat.reduceAdd, Nat.reduceSub, bindG_none, addG_none, hgrpK_none, nestK_none, hgrpK_guarded, Option.map_none, beq_self_eq_true, bne_self_eq_false, Option.map_some, if_true, if_false, List.getD_cons_zero, List.getD_cons_succ, List.length_cons, List.length_nil, List.mem_cons, List.not_mem_nil, List.mem_append, List.nil_append, List.cons_append, List.append_nil, List.take_succ_cons, List.take_zero, List.drop_succ_cons, List.drop_zero, List.set_cons_zero, List.set_cons_succ, List.map_cons, List.map_nil, implies_true, forall_const, ne_eq, d1, e1, hwi]
      intro hw5 hl5 hn5
      refine ⟨i + 1, ⟨by omega, fun j hj => ?_⟩, by omega, ?_⟩
      · by_cases e : j = i
        · subst e; exact ha
        · exact hi2 j (by omega)
      exact Drop.allS (Sub.refl _) (hwf.box (encR_lt c _)) hn5 ⟨⟨rfl, trivial⟩, ⟨rfl, Nat.lt_succ_self _⟩, ⟨rfl, trivial⟩, trivial⟩
  · have d1 : decide ((i : Int) < (leftC c : Int)) = false := decide_eq_false (by omega)
    have hp : peekC c a = (0, ⟨#[]⟩) := by
      unfold peekC
      rw [if_neg fun h => ?_]
      exact hi2 a.toNat (by omega) (by omega)
    rw [hp]
    refine hgo_sound 60 ?_
    simp -implicitDefEqProofs (maxSteps := 1000000) only [simpS, ↓condJ_true, ↓condJ_false, ↓reduceIte, Nat.reduceEqDiff, Nat.reduceLT, Nat.reduceLeDiff, reduceCtorEq, Nat.reduceAdd, Nat.reduceSub, bindG_none, addG_none, hgrpK_none, nestK_none, hgrpK_guarded, Option.map_none, beq_self_eq_true, bne_self_eq_false, Option.map_some, if_true, if_false, List.getD_cons_zero, List.getD_cons_succ, List.length_cons, List.length_nil, List.mem_cons, List.not_mem_nil, List.mem_append, List.nil_append, List.cons_append, List.append_nil, List.take_succ_cons, List.take_zero, List.drop_succ_cons, List.drop_zero, List.set_cons_zero, List.set_cons_succ, List.map_cons, List.map_nil, implies_true, forall_const, ne_eq, d1]
    exact fpost_pure (σ0 := σ) (.inr rfl) (by rw [hnx]; exact Nat.le_refl _) hwf (by first | exact Sub.refl σ | exact (((Ext.refl _).new _).sub hwf)) rfl trivial (by repeat' (first | trivial | apply And.intro)) ⟨rfl, rfl⟩

theorem ris_calls (c : Cu) (hc : c.ok) (a : Int) (x : ByteArray) (σ : St) : HCalls Tryz.prog 30 [.agg (encR c), .int .i64 a, .str x] σ (fun d σ' => d = .bool (isC c a x) ∧ σ' = σ) := by
  refine hcalls_body (fn := Tryz.f30) rfl c30 (by simp [h30]) (by simp [h30, Tryz.f30]) ?_
  intro M hP hr hnt hnx hwf hlt
  simp only [h30, argEnv]
  have hnt' : M.nt = 26 := hnt
  refine hgo_sound 60 ?_
  simp -implicitDefEqProofs (maxSteps := 1000000) only [simpS, ↓condJ_true, ↓condJ_false, ↓reduceIte, Nat.reduceEqDiff, Nat.reduceLT, Nat.reduceLeDiff, reduceCtorEq, Nat.reduceAdd, Nat.reduceSub, bindG_none, addG_none, hgrpK_none, nestK_none, hgrpK_guarded, Option.map_none, beq_self_eq_true, bne_self_eq_false, Option.map_some, if_true, if_false, List.getD_cons_zero, List.getD_cons_succ, List.length_cons, List.length_nil, List.mem_cons, List.not_mem_nil, List.mem_append, List.nil_append, List.cons_append, List.append_nil, List.take_succ_cons, List.take_zero, List.drop_succ_cons, List.drop_zero, List.set_cons_zero, List.set_cons_succ, List.map_cons, List.map_nil, implies_true, forall_const, ne_eq]
  refine hx_call (f := .fn 25) rfl (by rw [hP]; exact hcallD_func (rpeek_calls c hc a _)) ?_
  rintro _ σ2 ⟨rfl, h⟩
  subst σ2
  unfold isC
  generalize peekC c a = q
  obtain ⟨k, t⟩ := q
  have e3 : ((k : Int) == 3) = decide (k = 3) := by rw [Bool.eq_iff_iff]; simp; omega
  have e6 : ((k : Int) == 6) = decide (k = 6) := by rw [Bool.eq_iff_iff]; simp; omega
  simp only
  cases hk3 : decide (k = 3)
  · cases hk6 : decide (k = 6)
    · refine hgo_sound 60 ?_
      simp -implicitDefEqProofs (maxSteps := 1000000) only [simpS, ↓condJ_true, ↓condJ_false, ↓reduceIte, Nat.reduceEqDiff, Nat.reduceLT, Nat.reduceLeDiff, reduceCtorEq, Nat.reduceAdd, Nat.reduceSub, bindG_none, addG_none, hgrpK_none, nestK_none, hgrpK_guarded, Option.map_none, beq_self_eq_true, bne_self_eq_false, Option.map_some, if_true, if_false, List.getD_cons_zero, List.getD_cons_succ, List.length_cons, List.length_nil, List.mem_cons, List.not_mem_nil, List.mem_append, List.nil_append, List.cons_append, List.append_nil, List.take_succ_cons, List.take_zero, List.drop_succ_cons, List.drop_zero, List.set_cons_zero, List.set_cons_succ, List.map_cons, List.map_nil, implies_true, forall_const, ne_eq, e3, e6, hk3, hk6]
      exact fpost_pure (σ0 := σ) (.inr rfl) (by rw [hnx]; exact Nat.le_refl _) hwf (by first | exact Sub.refl σ | exact (((Ext.refl _).new _).sub hwf)) rfl trivial (by repeat' (first | trivial | apply And.intro)) ⟨rfl, rfl⟩
    · refine hgo_sound 60 ?_
      simp -implicitDefEqProofs (maxSteps := 1000000) only [simpS, ↓condJ_true, ↓condJ_false, ↓reduceIte, Nat.reduceEqDiff, Nat.reduceLT, Nat.reduceLeDiff, reduceCtorEq, Nat.reduceAdd, Nat.reduceSub, bindG_none, addG_none, hgrpK_none, nestK_none, hgrpK_guarded, Option.map_none, beq_self_eq_true, bne_self_eq_false, Option.map_some, if_true, if_false, List.getD_cons_zero, List.getD_cons_succ, List.length_cons, List.length_nil, List.mem_cons, List.not_mem_nil, List.mem_append, List.nil_append, List.cons_append, List.append_nil, List.take_succ_cons, List.take_zero, List.drop_succ_cons, List.drop_zero, List.set_cons_zero, List.set_cons_succ, List.map_cons, List.map_nil, implies_true, forall_const, ne_eq, e3, e6, hk3, hk6]
      exact fpost_pure (σ0 := σ) (.inr rfl) (by rw [hnx]; exact Nat.le_refl _) hwf (by first | exact Sub.refl σ | exact (((Ext.refl _).new _).sub hwf)) rfl trivial (by repeat' (first | trivial | apply And.intro)) ⟨rfl, rfl⟩
  · refine hgo_sound 60 ?_
    simp -implicitDefEqProofs (maxSteps := 1000000) only [simpS, ↓condJ_true, ↓condJ_false, ↓reduceIte, Nat.reduceEqDiff, Nat.reduceLT, Nat.reduceLeDiff, reduceCtorEq, Nat.reduceAdd, Nat.reduceSub, bindG_none, addG_none, hgrpK_none, nestK_none, hgrpK_guarded, Option.map_none, beq_self_eq_true, bne_self_eq_false, Option.map_some, if_true, if_false, List.getD_cons_zero, List.getD_cons_succ, List.length_cons, List.length_nil, List.mem_cons, List.not_mem_nil, List.mem_append, List.nil_append, List.cons_append, List.append_nil, List.take_succ_cons, List.take_zero, List.drop_succ_cons, List.drop_zero, List.set_cons_zero, List.set_cons_succ, List.map_cons, List.map_nil, implies_true, forall_const, ne_eq, e3, e6, hk3]
    exact fpost_pure (σ0 := σ) (.inr rfl) (by rw [hnx]; exact Nat.le_refl _) hwf (by first | exact Sub.refl σ | exact (((Ext.refl _).new _).sub hwf)) rfl trivial (by repeat' (first | trivial | apply And.intro)) ⟨rfl, rfl⟩

theorem rat_calls (c : Cu) (hc : c.ok) (σ : St) : HCalls Tryz.prog 32 [.agg (encR c)] σ (fun d σ' => d = .int .i64 (atC c : Int) ∧ σ' = σ) := by
  refine hcalls_body (fn := Tryz.f32) rfl c32 (by simp [h32]) (by simp [h32, Tryz.f32]) ?_
  intro M hP hr hnt hnx hwf hlt
  simp only [h32, argEnv]
  have hnt' : M.nt = 16 := hnt
  refine hgo_sound 60 ?_
  simp -implicitDefEqProofs (maxSteps := 1000000) only [simpS, ↓condJ_true, ↓condJ_false, ↓reduceIte, Nat.reduceEqDiff, Nat.reduceLT, Nat.reduceLeDiff, reduceCtorEq, Nat.reduceAdd, Nat.reduceSub, bindG_none, addG_none, hgrpK_none, nestK_none, hgrpK_guarded, Option.map_none, beq_self_eq_true, bne_self_eq_false, Option.map_some, if_true, if_false, List.getD_cons_zero, List.getD_cons_succ, List.length_cons, List.length_nil, List.mem_cons, List.not_mem_nil, List.mem_append, List.nil_append, List.cons_append, List.append_nil, List.take_succ_cons, List.take_zero, List.drop_succ_cons, List.drop_zero, List.set_cons_zero, List.set_cons_succ, List.map_cons, List.map_nil, implies_true, forall_const, ne_eq]
  refine hx_call (f := .fn 35) rfl (by rw [hP]; exact hcallD_func (rleft_calls c hc _)) ?_
  rintro _ σ2 ⟨rfl, h⟩
  subst σ2
  by_cases h0 : leftC c = 0
  · have e0 : ((leftC c : Int) == 0) = true := by rw [h0]; rfl
    have hp : atC c = c.s.size := by unfold atC; rw [if_pos h0]
    rw [hp]
    refine hgo_sound 60 ?_
    simp -implicitDefEqProofs (maxSteps := 1000000) only [simpS, ↓condJ_true, ↓condJ_false, ↓reduceIte, Nat.reduceEqDiff, Nat.reduceLT, Nat.reduceLeDiff, reduceCtorEq, Nat.reduceAdd, Nat.reduceSub, bindG_none, addG_none, hgrpK_none, nestK_none, hgrpK_guarded, Option.map_none, beq_self_eq_true, bne_self_eq_false, Option.map_some, if_true, if_false, List.getD_cons_zero, List.getD_cons_succ, List.length_cons, List.length_nil, List.mem_cons, List.not_mem_nil, List.mem_append, List.nil_append, List.cons_append, List.append_nil, List.take_succ_cons, List.take_zero, List.drop_succ_cons, List.drop_zero, List.set_cons_zero, List.set_cons_succ, List.map_cons, List.map_nil, implies_true, forall_const, ne_eq, e0]
    exact fpost_pure (σ0 := σ) (.inr rfl) (by rw [hnx]; exact Nat.le_refl _) hwf (by first | exact Sub.refl σ | exact (((Ext.refl _).new _).sub hwf)) rfl trivial (by repeat' (first | trivial | apply And.intro)) ⟨rfl, rfl⟩
  · have e0 : ((leftC c : Int) == 0) = false := by simp; omega
    obtain ⟨he, hj⟩ := leftC_lt (c := c) (j := 0) (by omega)
    have hg := encTk_get c.L c.n hj
    have hlt2 : (c.n : Int) < (c.L.length : Int) := by omega
    have hgd : c.L.getD c.n ⟨0, 0, 0⟩ = c.L[c.n] := by simp [List.getD, show c.n < c.L.length from hj]
    have hp : atC c = c.L[c.n].f := by unfold atC; rw [if_neg h0, hgd]
    rw [hp]
    refine hgo_sound 90 ?_
    simp -implicitDefEqProofs (maxSteps := 1000000) only [simpS, ↓condJ_true, ↓condJ_false, ↓reduceIte, Nat.reduceEqDiff, Nat.reduceLT, Nat.reduceLeDiff, reduceCtorEq, Nat.reduceAdd, Nat.reduceSub, bindG_none, addG_none, hgrpK_none, nestK_none, hgrpK_guarded, Option.map_none, beq_self_eq_true, bne_self_eq_false, Option.map_some, if_true, if_false, List.getD_cons_zero, List.getD_cons_succ, List.length_cons, List.length_nil, List.mem_cons, List.not_mem_nil, List.mem_append, List.nil_append, List.cons_append, List.append_nil, List.take_succ_cons, List.take_zero, List.drop_succ_cons, List.drop_zero, List.set_cons_zero, List.set_cons_succ, List.map_cons, List.map_nil, implies_true, forall_const, ne_eq, e0, encTk_length, hg, hlt2, Int.toNat_natCast, Int.natCast_nonneg]
    exact fpost_pure (σ0 := σ) (.inr rfl) (by rw [hnx]; exact Nat.le_refl _) hwf (by first | exact Sub.refl σ | exact (((Ext.refl _).new _).sub hwf)) rfl trivial (by repeat' (first | trivial | apply And.intro)) ⟨rfl, rfl⟩

theorem fp_cell {n0 n t id : Nat} {σ σ' : St} {env : Env} {ot : Option Nat} {cs : List D} (hn : n0 ≤ σ.next) (hwf : σ.wf) (hx : Ext σ σ') (h : look env t = .ptr id 0) (h2 : σ'.obj id = some (.bx ot cs)) (hl : cs.length = n) (hlt : ltL σ.next cs) :
    FPost n0 [HR.cell t (some n)] (fun d s => d = .agg cs ∧ s = σ) .ret env σ' :=
  fpost_pure (σ0 := σ) (ds := [.agg cs]) (.inr rfl) hn hwf (hx.sub hwf) (resD_cellS h h2 hl resD_nil) ⟨by omega, trivial⟩ hlt ⟨rfl, rfl⟩

theorem fp_cellT {n0 n t t2 id : Nat} {σ σ' : St} {env : Env} {ot : Option Nat} {cs : List D} {d2 : D} (hn : n0 ≤ σ.next) (hwf : σ.wf) (hx : Ext σ σ') (h : look env t = .ptr id 0) (h2 : σ'.obj id = some (.bx ot cs)) (hl : cs.length = n) (hlt : ltL σ.next cs) (ht : look env t2 = d2) (hlt2 : d2.lt σ.next) :
    FPost n0 [HR.cell t (some n), HR.tmp t2] (fun d s => d = .tuple [.agg cs, d2] ∧ s = σ) .ret env σ' :=
  fpost_pure (σ0 := σ) (ds := [.agg cs, look env t2]) (p := (0 + n ≤ cs.length) ∧ True) (.inr rfl) hn hwf (hx.sub hwf) (resD_cellS h h2 hl rfl) ⟨by omega, trivial⟩ ⟨hlt, by rw [ht]; exact hlt2, trivial⟩ ⟨by rw [ht]; rfl, rfl⟩

theorem fp_cell2 {n0 n m t t2 id id2 : Nat} {σ σ' : St} {env : Env} {ot ot2 : Option Nat} {cs cs2 : List D} {d : D} (hn : n0 ≤ σ.next) (hwf : σ.wf) (hx : Ext σ σ') (h : look env t = .ptr id 0) (h2 : σ'.obj id = some (.bx ot cs)) (hl : cs.length = n) (hlt : ltL σ.next cs)
    (k : look env t2 = .ptr id2 0) (k2 : σ'.obj id2 = some (.bx ot2 cs2)) (kl : cs2.length = m) (klt : ltL σ.next cs2) (hw : Wk (.agg cs2) d) :
    FPost n0 [HR.cell t (some n), HR.cell t2 (some m)] (fun x s => x = .tuple [.agg cs, d] ∧ s = σ) .ret env σ' :=
  fpost_wk (σ0 := σ) (ds := [.agg cs, .agg cs2]) (.tuple (.cons (.refl _) (.cons hw .nil))) (.inr rfl) hn hwf (hx.sub hwf) (resD_cellS h h2 hl (resD_cellS k k2 kl resD_nil)) ⟨by omega, by omega, trivial⟩ ⟨hlt, klt, trivial⟩ ⟨rfl, rfl⟩

theorem rfail_calls (c : Cu) (hc : c.ok) (e : Int) (σ : St) : HCalls Tryz.prog 18 [.agg (encR c), .int .i64 e] σ (fun d σ' => d = .agg (encR (failC c e)) ∧ σ' = σ) := by
  refine hcalls_body (fn := Tryz.f18) rfl c18 (by simp [h18]) (by simp [h18, Tryz.f18]) ?_
  intro M hP hr hnt hnx hwf hlt
  simp only [h18, argEnv]
  have hnt' : M.nt = 22 := hnt
  by_cases he : c.er = 0
  · have e1 : ((c.er : Int) != 0) = false := by rw [he]; rfl
    by_cases h1 : e < 1
    · have d1 : decide (e < 1) = true := decide_eq_true h1
      have hf : failC c e = { c with at_ := atC c, er := 2 } := by unfold failC; rw [if_pos he, if_pos (.inl h1)]
      rw [hf]
      refine hgo_sound 90 ?_
      simp -implicitDefEqProofs (maxSteps := 1000000) only [simpS, ↓condJ_true, ↓condJ_false, ↓reduceIte, Nat.reduceEqDiff, Nat.reduceLT, Nat.reduceLeDiff, reduceCtorEq, Nat.reduceAdd, Nat.reduceSub, bindG_none, addG_none, hgrpK_none, nestK_none, hgrpK_guarded, Option.map_none, beq_self_eq_true, bne_self_eq_false, Option.map_some, if_true, if_false, List.getD_cons_zero, List.getD_cons_succ, List.length_cons, List.length_nil, List.mem_cons, List.not_mem_nil, List.mem_append, List.nil_append, List.cons_append, List.append_nil, List.take_succ_cons, List.take_zero, List.drop_succ_cons, List.drop_zero, List.set_cons_zero, List.set_cons_succ, List.map_cons, List.map_nil, implies_true, forall_const, ne_eq, e1]
      refine hx_call (f := .fn 32) rfl (by rw [hP]; exact hcallD_func (rat_calls c hc _)) ?_
      rintro _ σ2 ⟨rfl, h⟩
      subst σ2
      refine hgo_sound 90 ?_
      simp -implicitDefEqProofs (maxSteps := 1000000) only [simpS, ↓condJ_true, ↓condJ_false, ↓reduceIte, Nat.reduceEqDiff, Nat.reduceLT, Nat.reduceLeDiff, reduceCtorEq, Nat.reduceAdd, Nat.reduceSub, bindG_none, addG_none, hgrpK_none, nestK_none, hgrpK_guarded, Option.map_none, beq_self_eq_true, bne_self_eq_false, Option.map_some, if_true, if_false, List.getD_cons_zero, List.getD_cons_succ, List.length_cons, List.length_nil, List.mem_cons, List.not_mem_nil, List.mem_append, List.nil_append, List.cons_append, List.append_nil, List.take_succ_cons, List.take_zero, List.drop_succ_cons, List.drop_zero, List.set_cons_zero, List.set_cons_succ, List.map_cons, List.map_nil, implies_true, forall_const, ne_eq, d1]
      exact fp_cell (by rw [hnx]; exact Nat.le_refl _) hwf (((Ext.refl _).new _).new _) rfl (by simp [St.obj_new, St.next_new]; rfl) rfl (encR_lt { c with at_ := atC c, er := 2 } _)
    · have d1 : decide (e < 1) = false := decide_eq_false h1
      by_cases h2 : e > 15
      · have d2 : decide (e > 15) = true := decide_eq_true h2
        have hf : failC c e = { c with at_ := atC c, er := 2 } := by unfold failC; rw [if_pos he, if_pos (.inr h2)]
        rw [hf]
        refine hgo_sound 90 ?_
        simp -implicitDefEqProofs (maxSteps := 1000000) only [simpS, ↓condJ_true, ↓condJ_false, ↓reduceIte, Nat.reduceEqDiff, Nat.reduceLT, Nat.reduceLeDiff, reduceCtorEq, Nat.reduceAdd, Nat.reduceSub, bindG_none, addG_none, hgrpK_none, nestK_none, hgrpK_guarded, Option.map_none, beq_self_eq_true, bne_self_eq_false, Option.map_some, if_true, if_false, List.getD_cons_zero, List.getD_cons_succ, List.length_cons, List.length_nil, List.mem_cons, List.not_mem_nil, List.mem_append, List.nil_append, List.cons_append, List.append_nil, List.take_succ_cons, List.take_zero, List.drop_succ_cons, List.drop_zero, List.set_cons_zero, List.set_cons_succ, List.map_cons, List.map_nil, implies_true, forall_const, ne_eq, e1]
        refine hx_call (f := .fn 32) rfl (by rw [hP]; exact hcallD_func (rat_calls c hc _)) ?_
        rintro _ σ2 ⟨rfl, h⟩
        subst σ2
        refine hgo_sound 90 ?_
        simp -implicitDefEqProofs (maxSteps := 1000000) only [simpS, ↓condJ_true, ↓condJ_false, ↓reduceIte, Nat.reduceEqDiff, Nat.reduceLT, Nat.reduceLeDiff, reduceCtorEq, Nat.reduceAdd, Nat.reduceSub, bindG_none, addG_none, hgrpK_none, nestK_none, hgrpK_guarded, Option.map_none, beq_self_eq_true, bne_self_eq_false, Option.map_some, if_true, if_false, List.getD_cons_zero, List.getD_cons_succ, List.length_cons, List.length_nil, List.mem_cons, List.not_mem_nil, List.mem_append, List.nil_append, List.cons_append, List.append_nil, List.take_succ_cons, List.take_zero, List.drop_succ_cons, List.drop_zero, List.set_cons_zero, List.set_cons_succ, List.map_cons, List.map_nil, implies_true, forall_const, ne_eq, d1, d2]
        exact fp_cell (by rw [hnx]; exact Nat.le_refl _) hwf (((Ext.refl _).new _).new _) rfl (by simp [St.obj_new, St.next_new]; rfl) rfl (encR_lt { c with at_ := atC c, er := 2 } _)
      · have d2 : decide (e > 15) = false := decide_eq_false h2
        have hf : failC c e = { c with at_ := atC c, er := e.toNat } := by unfold failC; rw [if_pos he, if_neg (by omega)]
        obtain ⟨j, rfl⟩ : ∃ j : Nat, e = (j : Int) := ⟨e.toNat, by omega⟩
        rw [hf]
        refine hgo_sound 90 ?_
        simp -implicitDefEqProofs (maxSteps := 1000000) only [simpS, ↓condJ_true, ↓condJ_false, ↓reduceIte, Nat.reduceEqDiff, Nat.reduceLT, Nat.reduceLeDiff, reduceCtorEq, Nat.reduceAdd, Nat.reduceSub, bindG_none, addG_none, hgrpK_none, nestK_none, hgrpK_guarded, Option.map_none, beq_self_eq_true, bne_self_eq_false, Option.map_some, if_true, if_false, List.getD_cons_zero, List.getD_cons_succ, List.length_cons, List.length_nil, List.mem_cons, List.not_mem_nil, List.mem_append, List.nil_append, List.cons_append, List.append_nil, List.take_succ_cons, List.take_zero, List.drop_succ_cons, List.drop_zero, List.set_cons_zero, List.set_cons_succ, List.map_cons, List.map_nil, implies_true, forall_const, ne_eq, e1]
        refine hx_call (f := .fn 32) rfl (by rw [hP]; exact hcallD_func (rat_calls c hc _)) ?_
        rintro _ σ2 ⟨rfl, h⟩
        subst σ2
        refine hgo_sound 90 ?_
        simp -implicitDefEqProofs (maxSteps := 1000000) only [simpS, ↓condJ_true, ↓condJ_false, ↓reduceIte, Nat.reduceEqDiff, Nat.reduceLT, Nat.reduceLeDiff, reduceCtorEq, Nat.reduceAdd, Nat.reduceSub, bindG_none, addG_none, hgrpK_none, nestK_none, hgrpK_guarded, Option.map_none, beq_self_eq_true, bne_self_eq_false, Option.map_some, if_true, if_false, List.getD_cons_zero, List.getD_cons_succ, List.length_cons, List.length_nil, List.mem_cons, List.not_mem_nil, List.mem_append, List.nil_append, List.cons_append, List.append_nil, List.take_succ_cons, List.take_zero, List.drop_succ_cons, List.drop_zero, List.set_cons_zero, List.set_cons_succ, List.map_cons, List.map_nil, implies_true, forall_const, ne_eq, d1, d2]
        exact fp_cell (by rw [hnx]; exact Nat.le_refl _) hwf (((Ext.refl _).new _).new _) rfl (by simp [St.obj_new, St.next_new]; rfl) rfl (encR_lt { c with at_ := atC c, er := (j : Int).toNat } _)
  · have e1 : ((c.er : Int) != 0) = true := by simp; omega
    have hf : failC c e = c := by unfold failC; rw [if_neg he]
    rw [hf]
    refine hgo_sound 90 ?_
    simp -implicitDefEqProofs (maxSteps := 1000000) only [simpS, ↓condJ_true, ↓condJ_false, ↓reduceIte, Nat.reduceEqDiff, Nat.reduceLT, Nat.reduceLeDiff, reduceCtorEq, Nat.reduceAdd, Nat.reduceSub, bindG_none, addG_none, hgrpK_none, nestK_none, hgrpK_guarded, Option.map_none, beq_self_eq_true, bne_self_eq_false, Option.map_some, if_true, if_false, List.getD_cons_zero, List.getD_cons_succ, List.length_cons, List.length_nil, List.mem_cons, List.not_mem_nil, List.mem_append, List.nil_append, List.cons_append, List.append_nil, List.take_succ_cons, List.take_zero, List.drop_succ_cons, List.drop_zero, List.set_cons_zero, List.set_cons_succ, List.map_cons, List.map_nil, implies_true, forall_const, ne_eq, e1]
    exact fp_cell (by rw [hnx]; exact Nat.le_refl _) hwf (((Ext.refl _).new _).new _) rfl (by simp [St.obj_new, St.next_new]; rfl) rfl (encR_lt c _)

theorem rup_calls (c : Cu) (hd : c.dp ≤ 200) (σ : St) : HCalls Tryz.prog 16 [.agg (encR c)] σ (fun d σ' => d = .agg (encR (upC c)) ∧ σ' = σ) := by
  refine hcalls_body (fn := Tryz.f16) rfl c16 (by simp [h16]) (by simp [h16, Tryz.f16]) ?_
  intro M hP hr hnt hnx hwf hlt
  simp only [h16, argEnv]
  have hnt' : M.nt = 11 := hnt
  by_cases h1 : 0 < c.dp
  · have d1 : decide ((c.dp : Int) > 0) = true := decide_eq_true (by omega)
    have hw : IntKind.i64.wrap ((c.dp : Int) - 1) = ((c.dp - 1 : Nat) : Int) := by rw [IntWalk.i64_in _ (by omega)]; omega
    rw [show upC c = { c with dp := c.dp - 1 } from rfl]
    refine hgo_sound 90 ?_
    simp -implicitDefEqProofs (maxSteps := 1000000) only [simpS, ↓condJ_true, ↓condJ_false, ↓reduceIte, Nat.reduceEqDiff, Nat.reduceLT, Nat.reduceLeDiff, reduceCtorEq, Nat.reduceAdd, Nat.reduceSub, bindG_none, addG_none, hgrpK_none, nestK_none, hgrpK_guarded, Option.map_none, beq_self_eq_true, bne_self_eq_false, Option.map_some, if_true, if_false, List.getD_cons_zero, List.getD_cons_succ, List.length_cons, List.length_nil, List.mem_cons, List.not_mem_nil, List.mem_append, List.nil_append, List.cons_append, List.append_nil, List.take_succ_cons, List.take_zero, List.drop_succ_cons, List.drop_zero, List.set_cons_zero, List.set_cons_succ, List.map_cons, List.map_nil, implies_true, forall_const, ne_eq, d1, hw]
    exact fp_cell (by rw [hnx]; exact Nat.le_refl _) hwf (((Ext.refl _).new _).new _) rfl (by simp [St.obj_new, St.next_new]; rfl) rfl (encR_lt { c with dp := c.dp - 1 } _)
  · have d1 : decide ((c.dp : Int) > 0) = false := decide_eq_false (by omega)
    have hz : upC c = c := by unfold upC; rw [show c.dp - 1 = c.dp by omega]
    rw [hz]
    refine hgo_sound 90 ?_
    simp -implicitDefEqProofs (maxSteps := 1000000) only [simpS, ↓condJ_true, ↓condJ_false, ↓reduceIte, Nat.reduceEqDiff, Nat.reduceLT, Nat.reduceLeDiff, reduceCtorEq, Nat.reduceAdd, Nat.reduceSub, bindG_none, addG_none, hgrpK_none, nestK_none, hgrpK_guarded, Option.map_none, beq_self_eq_true, bne_self_eq_false, Option.map_some, if_true, if_false, List.getD_cons_zero, List.getD_cons_succ, List.length_cons, List.length_nil, List.mem_cons, List.not_mem_nil, List.mem_append, List.nil_append, List.cons_append, List.append_nil, List.take_succ_cons, List.take_zero, List.drop_succ_cons, List.drop_zero, List.set_cons_zero, List.set_cons_succ, List.map_cons, List.map_nil, implies_true, forall_const, ne_eq, d1]
    exact fp_cell (by rw [hnx]; exact Nat.le_refl _) hwf (((Ext.refl _).new _).new _) rfl (by simp [St.obj_new, St.next_new]; rfl) rfl (encR_lt c _)

theorem rdown_calls (c : Cu) (hc : c.ok) (hd : c.dp ≤ 200) (σ : St) : HCalls Tryz.prog 14 [.agg (encR c)] σ (fun d σ' => d = .tuple [.agg (encR (downC c).1), .bool (downC c).2] ∧ σ' = σ) := by
  refine hcalls_body (fn := Tryz.f14) rfl c14 (by simp [h14]) (by simp [h14, Tryz.f14]) ?_
  intro M hP hr hnt hnx hwf hlt
  simp only [h14, argEnv]
  have hnt' : M.nt = 18 := hnt
  by_cases he : c.er = 0
  · have e1 : ((c.er : Int) != 0) = false := by rw [he]; rfl
    by_cases h1 : 200 ≤ c.dp
    · have d1 : ((c.dp : Int) == 200) = true := by simp; omega
      have hf : downC c = (failC c 3, false) := by unfold downC; rw [if_pos he, if_pos h1]
      rw [hf]
      refine hgo_sound 90 ?_
      simp -implicitDefEqProofs (maxSteps := 1000000) only [simpS, ↓condJ_true, ↓condJ_false, ↓reduceIte, Nat.reduceEqDiff, Nat.reduceLT, Nat.reduceLeDiff, reduceCtorEq, Nat.reduceAdd, Nat.reduceSub, bindG_none, addG_none, hgrpK_none, nestK_none, hgrpK_guarded, Option.map_none, beq_self_eq_true, bne_self_eq_false, Option.map_some, if_true, if_false, List.getD_cons_zero, List.getD_cons_succ, List.length_cons, List.length_nil, List.mem_cons, List.not_mem_nil, List.mem_append, List.nil_append, List.cons_append, List.append_nil, List.take_succ_cons, List.take_zero, List.drop_succ_cons, List.drop_zero, List.set_cons_zero, List.set_cons_succ, List.map_cons, List.map_nil, implies_true, forall_const, ne_eq, e1, d1]
      refine hx_call (f := .fn 18) rfl (by rw [hP]; exact hcallD_func (rfail_calls c hc 3 _)) ?_
      rintro _ σ2 ⟨rfl, h⟩
      subst σ2
      refine hgo_sound 90 ?_
      simp -implicitDefEqProofs (maxSteps := 1000000) only [simpS, ↓condJ_true, ↓condJ_false, ↓reduceIte, Nat.reduceEqDiff, Nat.reduceLT, Nat.reduceLeDiff, reduceCtorEq, Nat.reduceAdd, Nat.reduceSub, bindG_none, addG_none, hgrpK_none, nestK_none, hgrpK_guarded, Option.map_none, beq_self_eq_true, bne_self_eq_false, Option.map_some, if_true, if_false, List.getD_cons_zero, List.getD_cons_succ, List.length_cons, List.length_nil, List.mem_cons, List.not_mem_nil, List.mem_append, List.nil_append, List.cons_append, List.append_nil, List.take_succ_cons, List.take_zero, List.drop_succ_cons, List.drop_zero, List.set_cons_zero, List.set_cons_succ, List.map_cons, List.map_nil, implies_true, forall_const, ne_eq]
      exact fp_cellT (by rw [hnx]; exact Nat.le_refl _) hwf (((Ext.refl _).new _).new _) rfl (by simp [St.obj_new, St.next_new]; rfl) rfl (encR_lt _ _) rfl trivial
    · have d1 : ((c.dp : Int) == 200) = false := by simp; omega
      have hf : downC c = ({ c with dp := c.dp + 1 }, true) := by unfold downC; rw [if_pos he, if_neg h1]
      have hw : IntKind.i64.wrap ((c.dp : Int) + 1) = ((c.dp + 1 : Nat) : Int) := by rw [IntWalk.i64_in _ (by omega)]; rfl
      rw [hf]
      refine hgo_sound 90 ?_
      simp -implicitDefEqProofs (maxSteps := 1000000) only [simpS, ↓condJ_true, ↓condJ_false, ↓reduceIte, Nat.reduceEqDiff, Nat.reduceLT, Nat.reduceLeDiff, reduceCtorEq, Nat.reduceAdd, Nat.reduceSub, bindG_none, addG_none, hgrpK_none, nestK_none, hgrpK_guarded, Option.map_none, beq_self_eq_true, bne_self_eq_false, Option.map_some, if_true, if_false, List.getD_cons_zero, List.getD_cons_succ, List.length_cons, List.length_nil, List.mem_cons, List.not_mem_nil, List.mem_append, List.nil_append, List.cons_append, List.append_nil, List.take_succ_cons, List.take_zero, List.drop_succ_cons, List.drop_zero, List.set_cons_zero, List.set_cons_succ, List.map_cons, List.map_nil, implies_true, forall_const, ne_eq, e1, d1, hw]
      exact fp_cellT (by rw [hnx]; exact Nat.le_refl _) hwf (((Ext.refl _).new _).new _) rfl (by simp [St.obj_new, St.next_new]; rfl) rfl (encR_lt { c with dp := c.dp + 1 } _) rfl trivial
  · have e1 : ((c.er : Int) != 0) = true := by simp; omega
    have hf : downC c = (c, false) := by unfold downC; rw [if_neg he]
    rw [hf]
    refine hgo_sound 90 ?_
    simp -implicitDefEqProofs (maxSteps := 1000000) only [simpS, ↓condJ_true, ↓condJ_false, ↓reduceIte, Nat.reduceEqDiff, Nat.reduceLT, Nat.reduceLeDiff, reduceCtorEq, Nat.reduceAdd, Nat.reduceSub, bindG_none, addG_none, hgrpK_none, nestK_none, hgrpK_guarded, Option.map_none, beq_self_eq_true, bne_self_eq_false, Option.map_some, if_true, if_false, List.getD_cons_zero, List.getD_cons_succ, List.length_cons, List.length_nil, List.mem_cons, List.not_mem_nil, List.mem_append, List.nil_append, List.cons_append, List.append_nil, List.take_succ_cons, List.take_zero, List.drop_succ_cons, List.drop_zero, List.set_cons_zero, List.set_cons_succ, List.map_cons, List.map_nil, implies_true, forall_const, ne_eq, e1]
    exact fp_cellT (by rw [hnx]; exact Nat.le_refl _) hwf (((Ext.refl _).new _).new _) rfl (by simp [St.obj_new, St.next_new]; rfl) rfl (encR_lt c _) rfl trivial

def Cu.lok (c : Cu) : Prop := c.la = if c.n = 0 then 0 else (c.L.getD (c.n - 1) ⟨0, 0, 0⟩).t
theorem lok_fail {c : Cu} (h : c.lok) (e : Int) : (failC c e).lok := by
  unfold failC
  split
  · exact h
  · exact h
theorem lok_take {c : Cu} (h : c.lok) (w : Bool) : (takeC c w).1.lok := by
  unfold takeC
  split
  · rename_i hw
    unfold Cu.lok
    simp only [Nat.add_one_ne_zero, if_false, Nat.add_sub_cancel]
  · exact lok_fail h 2
theorem lok_down {c : Cu} (h : c.lok) : (downC c).1.lok := by
  unfold downC
  split
  · split
    · exact lok_fail h 3
    · exact h
  · exact h
theorem lok_up {c : Cu} (h : c.lok) : (upC c).lok := h
theorem lok_start (s : ByteArray) : (startC s).lok := rfl

theorem rlast_calls (c : Cu) (hc : c.ok) (hl : c.lok) (σ : St) : HCalls Tryz.prog 42 [.agg (encR c)] σ (fun d σ' => d = .int .i64 (c.la : Int) ∧ σ' = σ) := by
  refine hcalls_body (fn := Tryz.f42) rfl c42 (by simp [h42]) (by simp [h42, Tryz.f42]) ?_
  intro M hP hr hnt hnx hwf hlt
  simp only [h42, argEnv]
  have hnt' : M.nt = 14 := hnt
  unfold Cu.lok at hl
  rw [hl]
  by_cases h0 : c.n = 0
  · have e0 : ((c.n : Int) == 0) = true := by rw [h0]; rfl
    rw [if_pos h0]
    refine hgo_sound 90 ?_
    simp -implicitDefEqProofs (maxSteps := 1000000) only [simpS, ↓condJ_true, ↓condJ_false, ↓reduceIte, Nat.reduceEqDiff, Nat.reduceLT, Nat.reduceLeDiff, reduceCtorEq, Nat.reduceAdd, Nat.reduceSub, bindG_none, addG_none, hgrpK_none, nestK_none, hgrpK_guarded, Option.map_none, beq_self_eq_true, bne_self_eq_false, Option.map_some, if_true, if_false, List.getD_cons_zero, List.getD_cons_succ, List.length_cons, List.length_nil, List.mem_cons, List.not_mem_nil, List.mem_append, List.nil_append, List.cons_append, List.append_nil, List.take_succ_cons, List.take_zero, List.drop_succ_cons, List.drop_zero, List.set_cons_zero, List.set_cons_succ, List.map_cons, List.map_nil, implies_true, forall_const, ne_eq, e0]
    exact fpost_pure (σ0 := σ) (.inr rfl) (by rw [hnx]; exact Nat.le_refl _) hwf (by first | exact Sub.refl σ | exact (((Ext.refl _).new _).sub hwf)) rfl trivial (by repeat' (first | trivial | apply And.intro)) ⟨rfl, rfl⟩
  · have e0 : ((c.n : Int) == 0) = false := by simp; omega
    have hnl := hc.next
    have hj : c.n - 1 < c.L.length := by omega
    have hg := encTk_get c.L (c.n - 1) hj
    have hw : IntKind.i64.wrap ((c.n : Int) - 1) = ((c.n - 1 : Nat) : Int) := by
      have := hc.len; have := hc.small
      rw [IntWalk.i64_in _ (by omega)]; omega
    have hlt2 : ((c.n - 1 : Nat) : Int) < (c.L.length : Int) := by omega
    have hgd : c.L.getD (c.n - 1) ⟨0, 0, 0⟩ = c.L[c.n - 1] := by simp [List.getD, hj]
    rw [if_neg h0, hgd]
    refine hgo_sound 90 ?_
    simp -implicitDefEqProofs (maxSteps := 1000000) only [simpS, ↓condJ_true, ↓condJ_false, ↓reduceIte, Nat.reduceEqDiff, Nat.reduceLT, Nat.reduceLeDiff, reduceCtorEq, Nat.reduceAdd, Nat.reduceSub, bindG_none, addG_none, hgrpK_none, nestK_none, hgrpK_guarded, Option.map_none, beq_self_eq_true, bne_self_eq_false, Option.map_some, if_true, if_false, List.getD_cons_zero, List.getD_cons_succ, List.length_cons, List.length_nil, List.mem_cons, List.not_mem_nil, List.mem_append, List.nil_append, List.cons_append, List.append_nil, List.take_succ_cons, List.take_zero, List.drop_succ_cons, List.drop_zero, List.set_cons_zero, List.set_cons_succ, List.map_cons, List.map_nil, implies_true, forall_const, ne_eq, e0, hw, encTk_length, hg, hlt2, Int.toNat_natCast, Int.natCast_nonneg]
    exact fpost_pure (σ0 := σ) (.inr rfl) (by rw [hnx]; exact Nat.le_refl _) hwf (by first | exact Sub.refl σ | exact (((Ext.refl _).new _).sub hwf)) rfl trivial (by repeat' (first | trivial | apply And.intro)) ⟨rfl, rfl⟩

theorem rend_calls (c : Cu) (hc : c.ok) (hl : c.lok) (σ : St) : HCalls Tryz.prog 37 [.agg (encR c)] σ (fun d σ' => d = .str (endC c) ∧ σ' = σ) := by
  refine hcalls_body (fn := Tryz.f37) rfl c37 (by simp [h37]) (by simp [h37, Tryz.f37]) ?_
  intro M hP hr hnt hnx hwf hlt
  simp only [h37, argEnv]
  have hnt' : M.nt = 16 := hnt
  by_cases he : c.er = 0
  · have e1 : ((c.er : Int) != 0) = false := by rw [he]; rfl
    by_cases h1 : leftC c = 0
    · have d1 : decide ((leftC c : Int) > 0) = false := decide_eq_false (by omega)
      have hf : endC c = c.s.extract c.la c.s.size := by unfold endC; rw [if_pos ⟨he, h1⟩]
      have hla := hc.last
      have p1 : (c.la : Int) ≤ (c.s.size : Int) := by omega
      rw [hf]
      refine hgo_sound 90 ?_
      simp -implicitDefEqProofs (maxSteps := 1000000) only [simpS, ↓condJ_true, ↓condJ_false, ↓reduceIte, Nat.reduceEqDiff, Nat.reduceLT, Nat.reduceLeDiff, reduceCtorEq, Nat.reduceAdd, Nat.reduceSub, bindG_none, addG_none, hgrpK_none, nestK_none, hgrpK_guarded, Option.map_none, beq_self_eq_true, bne_self_eq_false, Option.map_some, if_true, if_false, List.getD_cons_zero, List.getD_cons_succ, List.length_cons, List.length_nil, List.mem_cons, List.not_mem_nil, List.mem_append, List.nil_append, List.cons_append, List.append_nil, List.take_succ_cons, List.take_zero, List.drop_succ_cons, List.drop_zero, List.set_cons_zero, List.set_cons_succ, List.map_cons, List.map_nil, implies_true, forall_const, ne_eq, e1]
      refine hx_call (f := .fn 35) rfl (by rw [hP]; exact hcallD_func (rleft_calls c hc _)) ?_
      rintro _ σ2 ⟨rfl, h⟩
      subst σ2
      refine hgo_sound 90 ?_
      simp -implicitDefEqProofs (maxSteps := 1000000) only [simpS, ↓condJ_true, ↓condJ_false, ↓reduceIte, Nat.reduceEqDiff, Nat.reduceLT, Nat.reduceLeDiff, reduceCtorEq, Nat.reduceAdd, Nat.reduceSub, bindG_none, addG_none, hgrpK_none, nestK_none, hgrpK_guarded, Option.map_none, beq_self_eq_true, bne_self_eq_false, Option.map_some, if_true, if_false, List.getD_cons_zero, List.getD_cons_succ, List.length_cons, List.length_nil, List.mem_cons, List.not_mem_nil, List.mem_append, List.nil_append, List.cons_append, List.append_nil, List.take_succ_cons, List.take_zero, List.drop_succ_cons, List.drop_zero, List.set_cons_zero, List.set_cons_succ, List.map_cons, List.map_nil, implies_true, forall_const, ne_eq, d1]
      refine hx_drawgo 1 ?_
      simp -implicitDefEqProofs (maxSteps := 100000000) only [drawS, List.map_cons, List.map_nil, List.getElem?_cons_zero, List.getElem?_cons_succ, List.getElem?_nil, simpS, ↓condJ_true, ↓condJ_false, ↓reduceIte, Nat.reduceEqDiff, Nat.reduceLT, Nat.reduceLeDiff, reduceCtorEq, Nat.reduceAdd, Nat.reduceSub, bindG_none, addG_none, hgrpK_none, nestK_none, hgrpK_guarded, Option.map_none, beq_self_eq_true, bne_self_eq_false, Option.map_some, if_true, if_false, List.getD_cons_zero, List.getD_cons_succ, List.length_cons, List.length_nil, List.mem_cons, List.not_mem_nil, List.mem_append, List.nil_append, List.cons_append, List.append_nil, List.take_succ_cons, List.take_zero, List.drop_succ_cons, List.drop_zero, List.set_cons_zero, List.set_cons_succ, List.map_cons, List.map_nil, implies_true, forall_const, ne_eq, hnt', p1, Int.toNat_natCast, Int.natCast_nonneg]
      refine hd_call (i := 3) (f := .fn 42) (by simp -implicitDefEqProofs (maxSteps := 100000000) only [drawS, List.map_cons, List.map_nil, List.getElem?_cons_zero, List.getElem?_cons_succ, List.getElem?_nil, simpS, ↓condJ_true, ↓condJ_false, ↓reduceIte, Nat.reduceEqDiff, Nat.reduceLT, Nat.reduceLeDiff, reduceCtorEq, Nat.reduceAdd, Nat.reduceSub, bindG_none, addG_none, hgrpK_none, nestK_none, hgrpK_guarded, Option.map_none, beq_self_eq_true, bne_self_eq_false, Option.map_some, if_true, if_false, List.getD_cons_zero, List.getD_cons_succ, List.length_cons, List.length_nil, List.mem_cons, List.not_mem_nil, List.mem_append, List.nil_append, List.cons_append, List.append_nil, List.take_succ_cons, List.take_zero, List.drop_succ_cons, List.drop_zero, List.set_cons_zero, List.set_cons_succ, List.map_cons, List.map_nil, implies_true, forall_const, ne_eq, hnt', p1, Int.toNat_natCast, Int.natCast_nonneg]) (by rfl) (by rfl) rfl (by rfl) (by rw [hP]; exact hcallD_func (rlast_calls c hc hl _)) ?_
      rintro _ σ2 ⟨rfl, h⟩
      subst σ2
      refine hdgo_sound 1 ?_
      simp -implicitDefEqProofs (maxSteps := 3000000) only [drawS, List.map_cons, List.map_nil, List.getElem?_cons_zero, List.getElem?_cons_succ, List.getElem?_nil, simpS, ↓condJ_true, ↓condJ_false, ↓reduceIte, Nat.reduceEqDiff, Nat.reduceLT, Nat.reduceLeDiff, reduceCtorEq, Nat.reduceAdd, Nat.reduceSub, bindG_none, addG_none, hgrpK_none, nestK_none, hgrpK_guarded, Option.map_none, beq_self_eq_true, bne_self_eq_false, Option.map_some, if_true, if_false, List.getD_cons_zero, List.getD_cons_succ, List.length_cons, List.length_nil, List.mem_cons, List.not_mem_nil, List.mem_append, List.nil_append, List.cons_append, List.append_nil, List.take_succ_cons, List.take_zero, List.drop_succ_cons, List.drop_zero, List.set_cons_zero, List.set_cons_succ, List.map_cons, List.map_nil, implies_true, forall_const, ne_eq, hnt', p1, Int.toNat_natCast, Int.natCast_nonneg]
      refine hgo_sound 60 ?_
      simp -implicitDefEqProofs (maxSteps := 1000000) only [simpS, ↓condJ_true, ↓condJ_false, ↓reduceIte, Nat.reduceEqDiff, Nat.reduceLT, Nat.reduceLeDiff, reduceCtorEq, Nat.reduceAdd, Nat.reduceSub, bindG_none, addG_none, hgrpK_none, nestK_none, hgrpK_guarded, Option.map_none, beq_self_eq_true, bne_self_eq_false, Option.map_some, if_true, if_false, List.getD_cons_zero, List.getD_cons_succ, List.length_cons, List.length_nil, List.mem_cons, List.not_mem_nil, List.mem_append, List.nil_append, List.cons_append, List.append_nil, List.take_succ_cons, List.take_zero, List.drop_succ_cons, List.drop_zero, List.set_cons_zero, List.set_cons_succ, List.map_cons, List.map_nil, implies_true, forall_const, ne_eq]
      exact fpost_pure (σ0 := σ) (.inr rfl) (by rw [hnx]; exact Nat.le_refl _) hwf (by first | exact Sub.refl σ | exact (((Ext.refl _).new _).sub hwf)) rfl trivial (by repeat' (first | trivial | apply And.intro)) ⟨rfl, rfl⟩
    · have d1 : decide ((leftC c : Int) > 0) = true := decide_eq_true (by omega)
      have hf : endC c = ⟨#[]⟩ := by unfold endC; rw [if_neg (fun h => h1 h.2)]
      rw [hf]
      refine hgo_sound 90 ?_
      simp -implicitDefEqProofs (maxSteps := 1000000) only [simpS, ↓condJ_true, ↓condJ_false, ↓reduceIte, Nat.reduceEqDiff, Nat.reduceLT, Nat.reduceLeDiff, reduceCtorEq, Nat.reduceAdd, Nat.reduceSub, bindG_none, addG_none, hgrpK_none, nestK_none, hgrpK_guarded, Option.map_none, beq_self_eq_true, bne_self_eq_false, Option.map_some, if_true, if_false, List.getD_cons_zero, List.getD_cons_succ, List.length_cons, List.length_nil, List.mem_cons, List.not_mem_nil, List.mem_append, List.nil_append, List.cons_append, List.append_nil, List.take_succ_cons, List.take_zero, List.drop_succ_cons, List.drop_zero, List.set_cons_zero, List.set_cons_succ, List.map_cons, List.map_nil, implies_true, forall_const, ne_eq, e1]
      refine hx_call (f := .fn 35) rfl (by rw [hP]; exact hcallD_func (rleft_calls c hc _)) ?_
      rintro _ σ2 ⟨rfl, h⟩
      subst σ2
      refine hgo_sound 90 ?_
      simp -implicitDefEqProofs (maxSteps := 1000000) only [simpS, ↓condJ_true, ↓condJ_false, ↓reduceIte, Nat.reduceEqDiff, Nat.reduceLT, Nat.reduceLeDiff, reduceCtorEq, Nat.reduceAdd, Nat.reduceSub, bindG_none, addG_none, hgrpK_none, nestK_none, hgrpK_guarded, Option.map_none, beq_self_eq_true, bne_self_eq_false, Option.map_some, if_true, if_false, List.getD_cons_zero, List.getD_cons_succ, List.length_cons, List.length_nil, List.mem_cons, List.not_mem_nil, List.mem_append, List.nil_append, List.cons_append, List.append_nil, List.take_succ_cons, List.take_zero, List.drop_succ_cons, List.drop_zero, List.set_cons_zero, List.set_cons_succ, List.map_cons, List.map_nil, implies_true, forall_const, ne_eq, d1]
      exact fpost_pure (σ0 := σ) (.inr rfl) (by rw [hnx]; exact Nat.le_refl _) hwf (by first | exact Sub.refl σ | exact (((Ext.refl _).new _).sub hwf)) rfl trivial (by repeat' (first | trivial | apply And.intro)) ⟨rfl, rfl⟩
  · have e1 : ((c.er : Int) != 0) = true := by simp; omega
    have hf : endC c = ⟨#[]⟩ := by unfold endC; rw [if_neg (fun h => he h.1)]
    rw [hf]
    refine hgo_sound 90 ?_
    simp -implicitDefEqProofs (maxSteps := 1000000) only [simpS, ↓condJ_true, ↓condJ_false, ↓reduceIte, Nat.reduceEqDiff, Nat.reduceLT, Nat.reduceLeDiff, reduceCtorEq, Nat.reduceAdd, Nat.reduceSub, bindG_none, addG_none, hgrpK_none, nestK_none, hgrpK_guarded, Option.map_none, beq_self_eq_true, bne_self_eq_false, Option.map_some, if_true, if_false, List.getD_cons_zero, List.getD_cons_succ, List.length_cons, List.length_nil, List.mem_cons, List.not_mem_nil, List.mem_append, List.nil_append, List.cons_append, List.append_nil, List.take_succ_cons, List.take_zero, List.drop_succ_cons, List.drop_zero, List.set_cons_zero, List.set_cons_succ, List.map_cons, List.map_nil, implies_true, forall_const, ne_eq, e1]
    exact fpost_pure (σ0 := σ) (.inr rfl) (by rw [hnx]; exact Nat.le_refl _) hwf (by first | exact Sub.refl σ | exact (((Ext.refl _).new _).sub hwf)) rfl trivial (by repeat' (first | trivial | apply And.intro)) ⟨rfl, rfl⟩

end Go.Hl
set_option linter.unusedSectionVars false
set_option linter.unusedVariables false
set_option linter.unusedSimpArgs false
set_option maxRecDepth 100000
namespace Go.Hl
open Go Go.Proofs Go.RowKit

theorem wk_node {k : Int} {g t : ByteArray} {a : Int} : Wk (.agg [.int .i64 k, .str g, .str t, .int .i64 a, .slice .nil 0 []]) (.agg (encN (.mk k g t a []))) :=
  .agg (.cons (.refl _) (.cons (.refl _) (.cons (.refl _) (.cons (.refl _) (.cons .nil .nil)))))
theorem node_lt {k : Int} {g t : ByteArray} {a : Int} (n : Nat) : ltL n [.int .i64 k, .str g, .str t, .int .i64 a, .slice .nil 0 []] := ⟨trivial, trivial, trivial, trivial, ⟨trivial, trivial⟩, trivial⟩

set_option maxHeartbeats 4000000 in
theorem rtake_calls (c : Cu) (hc : c.ok) (hlk : c.lok) (w : Bool) (σ : St) : HCalls Tryz.prog 26 [.agg (encR c), .bool w] σ (fun d σ' => d = .tuple [.agg (encR (takeC c w).1), .agg (encN (takeC c w).2)] ∧ σ' = σ) := by
  refine hcalls_body (fn := Tryz.f26) rfl c26 (by simp [h26]) (by simp [h26, Tryz.f26]) ?_
  intro M hP hr hnt hnx hwf hlt
  simp only [h26, argEnv]
  have hnt' : M.nt = 47 := hnt
  have fin0 : ∀ (env : Env) (σ' : St), Ext σ σ' → look env 4 = .ptr (σ.next + 1) 0 → look env 5 = .ptr (σ.next + 2) 0 → σ'.obj (σ.next + 1) = some (.bx none (encR (failC c 2))) → σ'.obj (σ.next + 2) = some (.bx none [.int .i64 0, .str ⟨#[]⟩, .str ⟨#[]⟩, .int .i64 0, .slice .nil 0 []]) →
      takeC c w = (failC c 2, zNd) → FPost M.gS.next [HR.cell 4 (some 6), HR.cell 5 (some 5)] (fun d s => d = .tuple [.agg (encR (takeC c w).1), .agg (encN (takeC c w).2)] ∧ s = σ) .ret env σ' := fun env σ' hx h4 h5 k4 k5 ht => by
    rw [ht]
    exact fp_cell2 (by rw [hnx]; exact Nat.le_refl _) hwf hx h4 k4 rfl (encR_lt _ _) h5 k5 rfl (node_lt _) wk_node
  cases w with
  | false =>
    have ht : takeC c false = (failC c 2, zNd) := by unfold takeC; rw [if_neg (fun h => by cases h.1)]
    refine hgo_sound 60 ?_
    simp -implicitDefEqProofs (maxSteps := 1000000) only [simpS, ↓condJ_true, ↓condJ_false, ↓reduceIte, Nat.reduceEqDiff, Nat.reduceLT, Nat.reduceLeDiff, reduceCtorEq, Nat.reduceAdd, Nat.reduceSub, bindG_none, addG_none, hgrpK_none, nestK_none, hgrpK_guarded, Option.map_none, beq_self_eq_true, bne_self_eq_false, Option.map_some, if_true, if_false, List.getD_cons_zero, List.getD_cons_succ, List.length_cons, List.length_nil, List.mem_cons, List.not_mem_nil, List.mem_append, List.nil_append, List.cons_append, List.append_nil, List.take_succ_cons, List.take_zero, List.drop_succ_cons, List.drop_zero, List.set_cons_zero, List.set_cons_succ, List.map_cons, List.map_nil, implies_true, forall_const, ne_eq]
    refine hx_call (f := .fn 18) rfl (by rw [hP]; exact hcallD_func (rfail_calls c hc 2 _)) ?_
    rintro _ σ2 ⟨rfl, h⟩
    subst σ2
    refine hgo_sound 60 ?_
    simp -implicitDefEqProofs (maxSteps := 1000000) only [simpS, ↓condJ_true, ↓condJ_false, ↓reduceIte, Nat.reduceEqDiff, Nat.reduceLT, Nat.reduceLeDiff, reduceCtorEq, Nat.reduceAdd, Nat.reduceSub, bindG_none, addG_none, hgrpK_none, nestK_none, hgrpK_guarded, Option.map_none, beq_self_eq_true, bne_self_eq_false, Option.map_some, if_true, if_false, List.getD_cons_zero, List.getD_cons_succ, List.length_cons, List.length_nil, List.mem_cons, List.not_mem_nil, List.mem_append, List.nil_append, List.cons_append, List.append_nil, List.take_succ_cons, List.take_zero, List.drop_succ_cons, List.drop_zero, List.set_cons_zero, List.set_cons_succ, List.map_cons, List.map_nil, implies_true, forall_const, ne_eq]
    exact fin0 _ _ ((((Ext.refl _).new _).new _).new _) rfl rfl (by simp [St.obj_new, St.next_new]) (by simp [St.obj_new, St.next_new]) ht
  | true =>
    refine hgo_sound 60 ?_
    simp -implicitDefEqProofs (maxSteps := 1000000) only [simpS, ↓condJ_true, ↓condJ_false, ↓reduceIte, Nat.reduceEqDiff, Nat.reduceLT, Nat.reduceLeDiff, reduceCtorEq, Nat.reduceAdd, Nat.reduceSub, bindG_none, addG_none, hgrpK_none, nestK_none, hgrpK_guarded, Option.map_none, beq_self_eq_true, bne_self_eq_false, Option.map_some, if_true, if_false, List.getD_cons_zero, List.getD_cons_succ, List.length_cons, List.length_nil, List.mem_cons, List.not_mem_nil, List.mem_append, List.nil_append, List.cons_append, List.append_nil, List.take_succ_cons, List.take_zero, List.drop_succ_cons, List.drop_zero, List.set_cons_zero, List.set_cons_succ, List.map_cons, List.map_nil, implies_true, forall_const, ne_eq]
    refine hx_call (f := .fn 35) rfl (by rw [hP]; exact hcallD_func (rleft_calls c hc _)) ?_
    rintro _ σ2 ⟨rfl, h⟩
    subst σ2
    by_cases hl : leftC c = 0
    · have e0 : ((leftC c : Int) == 0) = true := by rw [hl]; rfl
      have ht : takeC c true = (failC c 2, zNd) := by unfold takeC; rw [if_neg (fun h => h.2 hl)]
      refine hgo_sound 60 ?_
      simp -implicitDefEqProofs (maxSteps := 1000000) only [simpS, ↓condJ_true, ↓condJ_false, ↓reduceIte, Nat.reduceEqDiff, Nat.reduceLT, Nat.reduceLeDiff, reduceCtorEq, Nat.reduceAdd, Nat.reduceSub, bindG_none, addG_none, hgrpK_none, nestK_none, hgrpK_guarded, Option.map_none, beq_self_eq_true, bne_self_eq_false, Option.map_some, if_true, if_false, List.getD_cons_zero, List.getD_cons_succ, List.length_cons, List.length_nil, List.mem_cons, List.not_mem_nil, List.mem_append, List.nil_append, List.cons_append, List.append_nil, List.take_succ_cons, List.take_zero, List.drop_succ_cons, List.drop_zero, List.set_cons_zero, List.set_cons_succ, List.map_cons, List.map_nil, implies_true, forall_const, ne_eq, e0]
      refine hx_call (f := .fn 18) rfl (by rw [hP]; exact hcallD_func (rfail_calls c hc 2 _)) ?_
      rintro _ σ2 ⟨rfl, h⟩
      subst σ2
      refine hgo_sound 60 ?_
      simp -implicitDefEqProofs (maxSteps := 1000000) only [simpS, ↓condJ_true, ↓condJ_false, ↓reduceIte, Nat.reduceEqDiff, Nat.reduceLT, Nat.reduceLeDiff, reduceCtorEq, Nat.reduceAdd, Nat.reduceSub, bindG_none, addG_none, hgrpK_none, nestK_none, hgrpK_guarded, Option.map_none, beq_self_eq_true, bne_self_eq_false, Option.map_some, if_true, if_false, List.getD_cons_zero, List.getD_cons_succ, List.length_cons, List.length_nil, List.mem_cons, List.not_mem_nil, List.mem_append, List.nil_append, List.cons_append, List.append_nil, List.take_succ_cons, List.take_zero, List.drop_succ_cons, List.drop_zero, List.set_cons_zero, List.set_cons_succ, List.map_cons, List.map_nil, implies_true, forall_const, ne_eq]
      exact fin0 _ _ ((((Ext.refl _).new _).new _).new _) rfl rfl (by simp [St.obj_new, St.next_new]) (by simp [St.obj_new, St.next_new]) ht
    · have e0 : ((leftC c : Int) == 0) = false := by simp; omega
      obtain ⟨he, hj⟩ := leftC_lt (c := c) (j := 0) (by omega)
      have hg := encTk_get c.L c.n hj
      have hlt2 : (c.n : Int) < (c.L.length : Int) := by omega
      have hgd : c.L.getD c.n ⟨0, 0, 0⟩ = c.L[c.n] := by simp [List.getD, show c.n < c.L.length from hj]
      have hx := hc.in_ c.L[c.n] (List.getElem_mem _)
      have hlf := hc.lastf c.L[c.n] (by simp [show c.n < c.L.length from hj])
      have ht : takeC c true = ({ c with n := c.n + 1, la := (c.L[c.n]).t }, .mk 1 (c.s.extract c.la (c.L[c.n]).f) (textT c.s (c.L[c.n])) ((c.L[c.n]).f : Int) []) := by unfold takeC; rw [if_pos ⟨rfl, hl⟩, hgd]
      have htx : textT c.s c.L[c.n] = c.s.extract c.L[c.n].f c.L[c.n].t := rfl
      rw [htx] at ht
      generalize c.L[c.n] = x at *
      have p1 : (x.f : Int) ≤ (c.s.size : Int) := by omega
      have p2 : (c.la : Int) ≤ (x.f : Int) := by omega
      have p3 : (x.f : Int) ≤ (x.t : Int) := by omega
      have p4 : (x.t : Int) ≤ (c.s.size : Int) := by omega
      refine hgo_sound 60 ?_
      simp -implicitDefEqProofs (maxSteps := 1000000) only [simpS, ↓condJ_true, ↓condJ_false, ↓reduceIte, Nat.reduceEqDiff, Nat.reduceLT, Nat.reduceLeDiff, reduceCtorEq, Nat.reduceAdd, Nat.reduceSub, bindG_none, addG_none, hgrpK_none, nestK_none, hgrpK_guarded, Option.map_none, beq_self_eq_true, bne_self_eq_false, Option.map_some, if_true, if_false, List.getD_cons_zero, List.getD_cons_succ, List.length_cons, List.length_nil, List.mem_cons, List.not_mem_nil, List.mem_append, List.nil_append, List.cons_append, List.append_nil, List.take_succ_cons, List.take_zero, List.drop_succ_cons, List.drop_zero, List.set_cons_zero, List.set_cons_succ, List.map_cons, List.map_nil, implies_true, forall_const, ne_eq, e0, encTk_length, hg, hlt2, Int.toNat_natCast, Int.natCast_nonneg]
      refine hx_drawK [.ptr σ.next 0, .str c.s, .agg (encR c), .int .i64 (c.la : Int), .ptr (σ.next + 3) 1, .int .i64 (x.f : Int), .str (c.s.extract c.la x.f), .ptr σ.next 0, .str c.s, .ptr (σ.next + 3) 1, .int .i64 (x.f : Int), .ptr (σ.next + 3) 2, .int .i64 (x.t : Int), .str (c.s.extract x.f x.t), .ptr (σ.next + 3) 1, .int .i64 (x.f : Int), .agg [.int .i64 1, .str (c.s.extract c.la x.f), .str (c.s.extract x.f x.t), .int .i64 (x.f : Int), .slice .nil 0 []], .ptr (σ.next + 4) 0, .undef]
        (drS ((((σ.new (.box (encR c))).new (.box [.str ⟨#[]⟩, .slice .nil 0 [], .int .i64 0, .int .i64 0, .int .i64 0, .int .i64 0])).new (.box [.int .i64 0, .str ⟨#[]⟩, .str ⟨#[]⟩, .int .i64 0, .slice .nil 0 []])).new (.box (encK3 x))) (((((σ.new (.box (encR c))).new (.box [.str ⟨#[]⟩, .slice .nil 0 [], .int .i64 0, .int .i64 0, .int .i64 0, .int .i64 0])).new (.box [.int .i64 0, .str ⟨#[]⟩, .str ⟨#[]⟩, .int .i64 0, .slice .nil 0 []])).new (.box (encK3 x))).new (.box [.int .i64 0, .str ⟨#[]⟩, .str ⟨#[]⟩, .int .i64 0, .slice .nil 0 []])) (((((σ.new (.box (encR c))).new (.box [.str ⟨#[]⟩, .slice .nil 0 [], .int .i64 0, .int .i64 0, .int .i64 0, .int .i64 0])).new (.box [.int .i64 0, .str ⟨#[]⟩, .str ⟨#[]⟩, .int .i64 0, .slice .nil 0 []])).new (.box (encK3 x))).new (.box [.int .i64 1, .str (c.s.extract c.la x.f), .str (c.s.extract x.f x.t), .int .i64 (x.f : Int), .slice .nil 0 []])) 17 18)
        (by rw [hnt']; rfl) (drS_start _ _ _ _ _) ?_ ?_
      · intro L hC
        have o0 := drS_all (L := L) (a := 17) (b := 18) (S0 := ((((σ.new (.box (encR c))).new (.box [.str ⟨#[]⟩, .slice .nil 0 [], .int .i64 0, .int .i64 0, .int .i64 0, .int .i64 0])).new (.box [.int .i64 0, .str ⟨#[]⟩, .str ⟨#[]⟩, .int .i64 0, .slice .nil 0 []])).new (.box (encK3 x)))) (S1 := (((((σ.new (.box (encR c))).new (.box [.str ⟨#[]⟩, .slice .nil 0 [], .int .i64 0, .int .i64 0, .int .i64 0, .int .i64 0])).new (.box [.int .i64 0, .str ⟨#[]⟩, .str ⟨#[]⟩, .int .i64 0, .slice .nil 0 []])).new (.box (encK3 x))).new (.box [.int .i64 0, .str ⟨#[]⟩, .str ⟨#[]⟩, .int .i64 0, .slice .nil 0 []]))) (S2 := (((((σ.new (.box (encR c))).new (.box [.str ⟨#[]⟩, .slice .nil 0 [], .int .i64 0, .int .i64 0, .int .i64 0, .int .i64 0])).new (.box [.int .i64 0, .str ⟨#[]⟩, .str ⟨#[]⟩, .int .i64 0, .slice .nil 0 []])).new (.box (encK3 x))).new (.box [.int .i64 1, .str (c.s.extract c.la x.f), .str (c.s.extract x.f x.t), .int .i64 (x.f : Int), .slice .nil 0 []]))) (o := some (.box (encR c))) (id := σ.next)
          (by simp -implicitDefEqProofs (maxSteps := 1000000) only [simpS, ↓condJ_true, ↓condJ_false, ↓reduceIte, Nat.reduceEqDiff, Nat.reduceLT, Nat.reduceLeDiff, reduceCtorEq, Nat.reduceAdd, Nat.reduceSub, bindG_none, addG_none, hgrpK_none, nestK_none, hgrpK_guarded, Option.map_none, beq_self_eq_true, bne_self_eq_false, Option.map_some, if_true, if_false, List.getD_cons_zero, List.getD_cons_succ, List.length_cons, List.length_nil, List.mem_cons, List.not_mem_nil, List.mem_append, List.nil_append, List.cons_append, List.append_nil, List.take_succ_cons, List.take_zero, List.drop_succ_cons, List.drop_zero, List.set_cons_zero, List.set_cons_succ, List.map_cons, List.map_nil, implies_true, forall_const, ne_eq]) (by simp -implicitDefEqProofs (maxSteps := 1000000) only [simpS, ↓condJ_true, ↓condJ_false, ↓reduceIte, Nat.reduceEqDiff, Nat.reduceLT, Nat.reduceLeDiff, reduceCtorEq, Nat.reduceAdd, Nat.reduceSub, bindG_none, addG_none, hgrpK_none, nestK_none, hgrpK_guarded, Option.map_none, beq_self_eq_true, bne_self_eq_false, Option.map_some, if_true, if_false, List.getD_cons_zero, List.getD_cons_succ, List.length_cons, List.length_nil, List.mem_cons, List.not_mem_nil, List.mem_append, List.nil_append, List.cons_append, List.append_nil, List.take_succ_cons, List.take_zero, List.drop_succ_cons, List.drop_zero, List.set_cons_zero, List.set_cons_succ, List.map_cons, List.map_nil, implies_true, forall_const, ne_eq]) (by simp -implicitDefEqProofs (maxSteps := 1000000) only [simpS, ↓condJ_true, ↓condJ_false, ↓reduceIte, Nat.reduceEqDiff, Nat.reduceLT, Nat.reduceLeDiff, reduceCtorEq, Nat.reduceAdd, Nat.reduceSub, bindG_none, addG_none, hgrpK_none, nestK_none, hgrpK_guarded, Option.map_none, beq_self_eq_true, bne_self_eq_false, Option.map_some, if_true, if_false, List.getD_cons_zero, List.getD_cons_succ, List.length_cons, List.length_nil, List.mem_cons, List.not_mem_nil, List.mem_append, List.nil_append, List.cons_append, List.append_nil, List.take_succ_cons, List.take_zero, List.drop_succ_cons, List.drop_zero, List.set_cons_zero, List.set_cons_succ, List.map_cons, List.map_nil, implies_true, forall_const, ne_eq])
        have o1 := drS_all (L := L) (a := 17) (b := 18) (S0 := ((((σ.new (.box (encR c))).new (.box [.str ⟨#[]⟩, .slice .nil 0 [], .int .i64 0, .int .i64 0, .int .i64 0, .int .i64 0])).new (.box [.int .i64 0, .str ⟨#[]⟩, .str ⟨#[]⟩, .int .i64 0, .slice .nil 0 []])).new (.box (encK3 x)))) (S1 := (((((σ.new (.box (encR c))).new (.box [.str ⟨#[]⟩, .slice .nil 0 [], .int .i64 0, .int .i64 0, .int .i64 0, .int .i64 0])).new (.box [.int .i64 0, .str ⟨#[]⟩, .str ⟨#[]⟩, .int .i64 0, .slice .nil 0 []])).new (.box (encK3 x))).new (.box [.int .i64 0, .str ⟨#[]⟩, .str ⟨#[]⟩, .int .i64 0, .slice .nil 0 []]))) (S2 := (((((σ.new (.box (encR c))).new (.box [.str ⟨#[]⟩, .slice .nil 0 [], .int .i64 0, .int .i64 0, .int .i64 0, .int .i64 0])).new (.box [.int .i64 0, .str ⟨#[]⟩, .str ⟨#[]⟩, .int .i64 0, .slice .nil 0 []])).new (.box (encK3 x))).new (.box [.int .i64 1, .str (c.s.extract c.la x.f), .str (c.s.extract x.f x.t), .int .i64 (x.f : Int), .slice .nil 0 []]))) (o := some (.box (encK3 x))) (id := σ.next + 3)
          (by simp -implicitDefEqProofs (maxSteps := 1000000) only [simpS, ↓condJ_true, ↓condJ_false, ↓reduceIte, Nat.reduceEqDiff, Nat.reduceLT, Nat.reduceLeDiff, reduceCtorEq, Nat.reduceAdd, Nat.reduceSub, bindG_none, addG_none, hgrpK_none, nestK_none, hgrpK_guarded, Option.map_none, beq_self_eq_true, bne_self_eq_false, Option.map_some, if_true, if_false, List.getD_cons_zero, List.getD_cons_succ, List.length_cons, List.length_nil, List.mem_cons, List.not_mem_nil, List.mem_append, List.nil_append, List.cons_append, List.append_nil, List.take_succ_cons, List.take_zero, List.drop_succ_cons, List.drop_zero, List.set_cons_zero, List.set_cons_succ, List.map_cons, List.map_nil, implies_true, forall_const, ne_eq]) (by simp -implicitDefEqProofs (maxSteps := 1000000) only [simpS, ↓condJ_true, ↓condJ_false, ↓reduceIte, Nat.reduceEqDiff, Nat.reduceLT, Nat.reduceLeDiff, reduceCtorEq, Nat.reduceAdd, Nat.reduceSub, bindG_none, addG_none, hgrpK_none, nestK_none, hgrpK_guarded, Option.map_none, beq_self_eq_true, bne_self_eq_false, Option.map_some, if_true, if_false, List.getD_cons_zero, List.getD_cons_succ, List.length_cons, List.length_nil, List.mem_cons, List.not_mem_nil, List.mem_append, List.nil_append, List.cons_append, List.append_nil, List.take_succ_cons, List.take_zero, List.drop_succ_cons, List.drop_zero, List.set_cons_zero, List.set_cons_succ, List.map_cons, List.map_nil, implies_true, forall_const, ne_eq]) (by simp -implicitDefEqProofs (maxSteps := 1000000) only [simpS, ↓condJ_true, ↓condJ_false, ↓reduceIte, Nat.reduceEqDiff, Nat.reduceLT, Nat.reduceLeDiff, reduceCtorEq, Nat.reduceAdd, Nat.reduceSub, bindG_none, addG_none, hgrpK_none, nestK_none, hgrpK_guarded, Option.map_none, beq_self_eq_true, bne_self_eq_false, Option.map_some, if_true, if_false, List.getD_cons_zero, List.getD_cons_succ, List.length_cons, List.length_nil, List.mem_cons, List.not_mem_nil, List.mem_append, List.nil_append, List.cons_append, List.append_nil, List.take_succ_cons, List.take_zero, List.drop_succ_cons, List.drop_zero, List.set_cons_zero, List.set_cons_succ, List.map_cons, List.map_nil, implies_true, forall_const, ne_eq])
        simp only [allD_nil, allD_cons]
        refine ⟨fun hi ha => ?_, fun hi ha => ?_, fun hi ha => ?_, fun hi ha => ?_, fun hi ha => ?_, fun hi ha => ?_, fun hi ha => ?_, fun hi ha => ?_, fun hi ha => ?_, fun hi ha => ?_, fun hi ha => ?_, fun hi ha => ?_, fun hi ha => ?_, fun hi ha => ?_, fun hi ha => ?_, fun hi ha => ?_, fun hi ha => ?_, fun hi ha => ?_, fun hi ha => ?_, trivial⟩
        · simp -implicitDefEqProofs (maxSteps := 3000000) only [dsetS, List.map_cons, List.map_nil, simpS, ↓condJ_true, ↓condJ_false, ↓reduceIte, Nat.reduceEqDiff, Nat.reduceLT, Nat.reduceLeDiff, reduceCtorEq, Nat.reduceAdd, Nat.reduceSub, bindG_none, addG_none, hgrpK_none, nestK_none, hgrpK_guarded, Option.map_none, beq_self_eq_true, bne_self_eq_false, Option.map_some, if_true, if_false, List.getD_cons_zero, List.getD_cons_succ, List.length_cons, List.length_nil, List.mem_cons, List.not_mem_nil, List.mem_append, List.nil_append, List.cons_append, List.append_nil, List.take_succ_cons, List.take_zero, List.drop_succ_cons, List.drop_zero, List.set_cons_zero, List.set_cons_succ, List.map_cons, List.map_nil, implies_true, forall_const, ne_eq, hnt', o0, o1, valV, List.getD_cons_zero, List.getD_cons_succ, p1, p2, p3, p4, Int.toNat_natCast, Int.natCast_nonneg]
          first | exact (drS_upd (by decide) (by decide)).symm | exact ⟨rfl, (drS_upd (by decide) (by decide)).symm⟩
        · simp -implicitDefEqProofs (maxSteps := 3000000) only [dsetS, List.map_cons, List.map_nil, simpS, ↓condJ_true, ↓condJ_false, ↓reduceIte, Nat.reduceEqDiff, Nat.reduceLT, Nat.reduceLeDiff, reduceCtorEq, Nat.reduceAdd, Nat.reduceSub, bindG_none, addG_none, hgrpK_none, nestK_none, hgrpK_guarded, Option.map_none, beq_self_eq_true, bne_self_eq_false, Option.map_some, if_true, if_false, List.getD_cons_zero, List.getD_cons_succ, List.length_cons, List.length_nil, List.mem_cons, List.not_mem_nil, List.mem_append, List.nil_append, List.cons_append, List.append_nil, List.take_succ_cons, List.take_zero, List.drop_succ_cons, List.drop_zero, List.set_cons_zero, List.set_cons_succ, List.map_cons, List.map_nil, implies_true, forall_const, ne_eq, hnt', o0, o1, valV, List.getD_cons_zero, List.getD_cons_succ, p1, p2, p3, p4, Int.toNat_natCast, Int.natCast_nonneg]
          first | exact (drS_upd (by decide) (by decide)).symm | exact ⟨rfl, (drS_upd (by decide) (by decide)).symm⟩
        · simp -implicitDefEqProofs (maxSteps := 3000000) only [dsetS, List.map_cons, List.map_nil, simpS, ↓condJ_true, ↓condJ_false, ↓reduceIte, Nat.reduceEqDiff, Nat.reduceLT, Nat.reduceLeDiff, reduceCtorEq, Nat.reduceAdd, Nat.reduceSub, bindG_none, addG_none, hgrpK_none, nestK_none, hgrpK_guarded, Option.map_none, beq_self_eq_true, bne_self_eq_false, Option.map_some, if_true, if_false, List.getD_cons_zero, List.getD_cons_succ, List.length_cons, List.length_nil, List.mem_cons, List.not_mem_nil, List.mem_append, List.nil_append, List.cons_append, List.append_nil, List.take_succ_cons, List.take_zero, List.drop_succ_cons, List.drop_zero, List.set_cons_zero, List.set_cons_succ, List.map_cons, List.map_nil, implies_true, forall_const, ne_eq, hnt', o0, o1, valV, List.getD_cons_zero, List.getD_cons_succ, p1, p2, p3, p4, Int.toNat_natCast, Int.natCast_nonneg]
          first | exact (drS_upd (by decide) (by decide)).symm | exact ⟨rfl, (drS_upd (by decide) (by decide)).symm⟩
        · simp -implicitDefEqProofs (maxSteps := 3000000) only [dsetS, List.map_cons, List.map_nil, simpS, ↓condJ_true, ↓condJ_false, ↓reduceIte, Nat.reduceEqDiff, Nat.reduceLT, Nat.reduceLeDiff, reduceCtorEq, Nat.reduceAdd, Nat.reduceSub, bindG_none, addG_none, hgrpK_none, nestK_none, hgrpK_guarded, Option.map_none, beq_self_eq_true, bne_self_eq_false, Option.map_some, if_true, if_false, List.getD_cons_zero, List.getD_cons_succ, List.length_cons, List.length_nil, List.mem_cons, List.not_mem_nil, List.mem_append, List.nil_append, List.cons_append, List.append_nil, List.take_succ_cons, List.take_zero, List.drop_succ_cons, List.drop_zero, List.set_cons_zero, List.set_cons_succ, List.map_cons, List.map_nil, implies_true, forall_const, ne_eq, hnt', o0, o1, valV, List.getD_cons_zero, List.getD_cons_succ, p1, p2, p3, p4, Int.toNat_natCast, Int.natCast_nonneg]
          refine ⟨_, _, _, rfl, by rw [hP]; exact hcallD_func (rlast_calls c hc hlk _), ?_⟩
          rintro _ σ2 ⟨rfl, h⟩
          subst σ2
          first | exact (drS_upd (by decide) (by decide)).symm | exact ⟨rfl, (drS_upd (by decide) (by decide)).symm⟩
        · simp -implicitDefEqProofs (maxSteps := 3000000) only [dsetS, List.map_cons, List.map_nil, simpS, ↓condJ_true, ↓condJ_false, ↓reduceIte, Nat.reduceEqDiff, Nat.reduceLT, Nat.reduceLeDiff, reduceCtorEq, Nat.reduceAdd, Nat.reduceSub, bindG_none, addG_none, hgrpK_none, nestK_none, hgrpK_guarded, Option.map_none, beq_self_eq_true, bne_self_eq_false, Option.map_some, if_true, if_false, List.getD_cons_zero, List.getD_cons_succ, List.length_cons, List.length_nil, List.mem_cons, List.not_mem_nil, List.mem_append, List.nil_append, List.cons_append, List.append_nil, List.take_succ_cons, List.take_zero, List.drop_succ_cons, List.drop_zero, List.set_cons_zero, List.set_cons_succ, List.map_cons, List.map_nil, implies_true, forall_const, ne_eq, hnt', o0, o1, valV, List.getD_cons_zero, List.getD_cons_succ, p1, p2, p3, p4, Int.toNat_natCast, Int.natCast_nonneg]
          first | exact (drS_upd (by decide) (by decide)).symm | exact ⟨rfl, (drS_upd (by decide) (by decide)).symm⟩
        · simp -implicitDefEqProofs (maxSteps := 3000000) only [dsetS, List.map_cons, List.map_nil, simpS, ↓condJ_true, ↓condJ_false, ↓reduceIte, Nat.reduceEqDiff, Nat.reduceLT, Nat.reduceLeDiff, reduceCtorEq, Nat.reduceAdd, Nat.reduceSub, bindG_none, addG_none, hgrpK_none, nestK_none, hgrpK_guarded, Option.map_none, beq_self_eq_true, bne_self_eq_false, Option.map_some, if_true, if_false, List.getD_cons_zero, List.getD_cons_succ, List.length_cons, List.length_nil, List.mem_cons, List.not_mem_nil, List.mem_append, List.nil_append, List.cons_append, List.append_nil, List.take_succ_cons, List.take_zero, List.drop_succ_cons, List.drop_zero, List.set_cons_zero, List.set_cons_succ, List.map_cons, List.map_nil, implies_true, forall_const, ne_eq, hnt', o0, o1, valV, List.getD_cons_zero, List.getD_cons_succ, p1, p2, p3, p4, Int.toNat_natCast, Int.natCast_nonneg]
          first | exact (drS_upd (by decide) (by decide)).symm | exact ⟨rfl, (drS_upd (by decide) (by decide)).symm⟩
        · simp -implicitDefEqProofs (maxSteps := 3000000) only [dsetS, List.map_cons, List.map_nil, simpS, ↓condJ_true, ↓condJ_false, ↓reduceIte, Nat.reduceEqDiff, Nat.reduceLT, Nat.reduceLeDiff, reduceCtorEq, Nat.reduceAdd, Nat.reduceSub, bindG_none, addG_none, hgrpK_none, nestK_none, hgrpK_guarded, Option.map_none, beq_self_eq_true, bne_self_eq_false, Option.map_some, if_true, if_false, List.getD_cons_zero, List.getD_cons_succ, List.length_cons, List.length_nil, List.mem_cons, List.not_mem_nil, List.mem_append, List.nil_append, List.cons_append, List.append_nil, List.take_succ_cons, List.take_zero, List.drop_succ_cons, List.drop_zero, List.set_cons_zero, List.set_cons_succ, List.map_cons, List.map_nil, implies_true, forall_const, ne_eq, hnt', o0, o1, valV, List.getD_cons_zero, List.getD_cons_succ, p1, p2, p3, p4, Int.toNat_natCast, Int.natCast_nonneg]
          first | exact (drS_upd (by decide) (by decide)).symm | exact ⟨rfl, (drS_upd (by decide) (by decide)).symm⟩
        · simp -implicitDefEqProofs (maxSteps := 3000000) only [dsetS, List.map_cons, List.map_nil, simpS, ↓condJ_true, ↓condJ_false, ↓reduceIte, Nat.reduceEqDiff, Nat.reduceLT, Nat.reduceLeDiff, reduceCtorEq, Nat.reduceAdd, Nat.reduceSub, bindG_none, addG_none, hgrpK_none, nestK_none, hgrpK_guarded, Option.map_none, beq_self_eq_true, bne_self_eq_false, Option.map_some, if_true, if_false, List.getD_cons_zero, List.getD_cons_succ, List.length_cons, List.length_nil, List.mem_cons, List.not_mem_nil, List.mem_append, List.nil_append, List.cons_append, List.append_nil, List.take_succ_cons, List.take_zero, List.drop_succ_cons, List.drop_zero, List.set_cons_zero, List.set_cons_succ, List.map_cons, List.map_nil, implies_true, forall_const, ne_eq, hnt', o0, o1, valV, List.getD_cons_zero, List.getD_cons_succ, p1, p2, p3, p4, Int.toNat_natCast, Int.natCast_nonneg]
          first | exact (drS_upd (by decide) (by decide)).symm | exact ⟨rfl, (drS_upd (by decide) (by decide)).symm⟩
        · simp -implicitDefEqProofs (maxSteps := 3000000) only [dsetS, List.map_cons, List.map_nil, simpS, ↓condJ_true, ↓condJ_false, ↓reduceIte, Nat.reduceEqDiff, Nat.reduceLT, Nat.reduceLeDiff, reduceCtorEq, Nat.reduceAdd, Nat.reduceSub, bindG_none, addG_none, hgrpK_none, nestK_none, hgrpK_guarded, Option.map_none, beq_self_eq_true, bne_self_eq_false, Option.map_some, if_true, if_false, List.getD_cons_zero, List.getD_cons_succ, List.length_cons, List.length_nil, List.mem_cons, List.not_mem_nil, List.mem_append, List.nil_append, List.cons_append, List.append_nil, List.take_succ_cons, List.take_zero, List.drop_succ_cons, List.drop_zero, List.set_cons_zero, List.set_cons_succ, List.map_cons, List.map_nil, implies_true, forall_const, ne_eq, hnt', o0, o1, valV, List.getD_cons_zero, List.getD_cons_succ, p1, p2, p3, p4, Int.toNat_natCast, Int.natCast_nonneg]
          first | exact (drS_upd (by decide) (by decide)).symm | exact ⟨rfl, (drS_upd (by decide) (by decide)).symm⟩
        · simp -implicitDefEqProofs (maxSteps := 3000000) only [dsetS, List.map_cons, List.map_nil, simpS, ↓condJ_true, ↓condJ_false, ↓reduceIte, Nat.reduceEqDiff, Nat.reduceLT, Nat.reduceLeDiff, reduceCtorEq, Nat.reduceAdd, Nat.reduceSub, bindG_none, addG_none, hgrpK_none, nestK_none, hgrpK_guarded, Option.map_none, beq_self_eq_true, bne_self_eq_false, Option.map_some, if_true, if_false, List.getD_cons_zero, List.getD_cons_succ, List.length_cons, List.length_nil, List.mem_cons, List.not_mem_nil, List.mem_append, List.nil_append, List.cons_append, List.append_nil, List.take_succ_cons, List.take_zero, List.drop_succ_cons, List.drop_zero, List.set_cons_zero, List.set_cons_succ, List.map_cons, List.map_nil, implies_true, forall_const, ne_eq, hnt', o0, o1, valV, List.getD_cons_zero, List.getD_cons_succ, p1, p2, p3, p4, Int.toNat_natCast, Int.natCast_nonneg]
          first | exact (drS_upd (by decide) (by decide)).symm | exact ⟨rfl, (drS_upd (by decide) (by decide)).symm⟩
        · simp -implicitDefEqProofs (maxSteps := 3000000) only [dsetS, List.map_cons, List.map_nil, simpS, ↓condJ_true, ↓condJ_false, ↓reduceIte, Nat.reduceEqDiff, Nat.reduceLT, Nat.reduceLeDiff, reduceCtorEq, Nat.reduceAdd, Nat.reduceSub, bindG_none, addG_none, hgrpK_none, nestK_none, hgrpK_guarded, Option.map_none, beq_self_eq_true, bne_self_eq_false, Option.map_some, if_true, if_false, List.getD_cons_zero, List.getD_cons_succ, List.length_cons, List.length_nil, List.mem_cons, List.not_mem_nil, List.mem_append, List.nil_append, List.cons_append, List.append_nil, List.take_succ_cons, List.take_zero, List.drop_succ_cons, List.drop_zero, List.set_cons_zero, List.set_cons_succ, List.map_cons, List.map_nil, implies_true, forall_const, ne_eq, hnt', o0, o1, valV, List.getD_cons_zero, List.getD_cons_succ, p1, p2, p3, p4, Int.toNat_natCast, Int.natCast_nonneg]
          first | exact (drS_upd (by decide) (by decide)).symm | exact ⟨rfl, (drS_upd (by decide) (by decide)).symm⟩
        · simp -implicitDefEqProofs (maxSteps := 3000000) only [dsetS, List.map_cons, List.map_nil, simpS, ↓condJ_true, ↓condJ_false, ↓reduceIte, Nat.reduceEqDiff, Nat.reduceLT, Nat.reduceLeDiff, reduceCtorEq, Nat.reduceAdd, Nat.reduceSub, bindG_none, addG_none, hgrpK_none, nestK_none, hgrpK_guarded, Option.map_none, beq_self_eq_true, bne_self_eq_false, Option.map_some, if_true, if_false, List.getD_cons_zero, List.getD_cons_succ, List.length_cons, List.length_nil, List.mem_cons, List.not_mem_nil, List.mem_append, List.nil_append, List.cons_append, List.append_nil, List.take_succ_cons, List.take_zero, List.drop_succ_cons, List.drop_zero, List.set_cons_zero, List.set_cons_succ, List.map_cons, List.map_nil, implies_true, forall_const, ne_eq, hnt', o0, o1, valV, List.getD_cons_zero, List.getD_cons_succ, p1, p2, p3, p4, Int.toNat_natCast, Int.natCast_nonneg]
          first | exact (drS_upd (by decide) (by decide)).symm | exact ⟨rfl, (drS_upd (by decide) (by decide)).symm⟩
        · simp -implicitDefEqProofs (maxSteps := 3000000) only [dsetS, List.map_cons, List.map_nil, simpS, ↓condJ_true, ↓condJ_false, ↓reduceIte, Nat.reduceEqDiff, Nat.reduceLT, Nat.reduceLeDiff, reduceCtorEq, Nat.reduceAdd, Nat.reduceSub, bindG_none, addG_none, hgrpK_none, nestK_none, hgrpK_guarded, Option.map_none, beq_self_eq_true, bne_self_eq_false, Option.map_some, if_true, if_false, List.getD_cons_zero, List.getD_cons_succ, List.length_cons, List.length_nil, List.mem_cons, List.not_mem_nil, List.mem_append, List.nil_append, List.cons_append, List.append_nil, List.take_succ_cons, List.take_zero, List.drop_succ_cons, List.drop_zero, List.set_cons_zero, List.set_cons_succ, List.map_cons, List.map_nil, implies_true, forall_const, ne_eq, hnt', o0, o1, valV, List.getD_cons_zero, List.getD_cons_succ, p1, p2, p3, p4, Int.toNat_natCast, Int.natCast_nonneg]
          first | exact (drS_upd (by decide) (by decide)).symm | exact ⟨rfl, (drS_upd (by decide) (by decide)).symm⟩
        · simp -implicitDefEqProofs (maxSteps := 3000000) only [dsetS, List.map_cons, List.map_nil, simpS, ↓condJ_true, ↓condJ_false, ↓reduceIte, Nat.reduceEqDiff, Nat.reduceLT, Nat.reduceLeDiff, reduceCtorEq, Nat.reduceAdd, Nat.reduceSub, bindG_none, addG_none, hgrpK_none, nestK_none, hgrpK_guarded, Option.map_none, beq_self_eq_true, bne_self_eq_false, Option.map_some, if_true, if_false, List.getD_cons_zero, List.getD_cons_succ, List.length_cons, List.length_nil, List.mem_cons, List.not_mem_nil, List.mem_append, List.nil_append, List.cons_append, List.append_nil, List.take_succ_cons, List.take_zero, List.drop_succ_cons, List.drop_zero, List.set_cons_zero, List.set_cons_succ, List.map_cons, List.map_nil, implies_true, forall_const, ne_eq, hnt', o0, o1, valV, List.getD_cons_zero, List.getD_cons_succ, p1, p2, p3, p4, Int.toNat_natCast, Int.natCast_nonneg]
          first | exact (drS_upd (by decide) (by decide)).symm | exact ⟨rfl, (drS_upd (by decide) (by decide)).symm⟩
        · simp -implicitDefEqProofs (maxSteps := 3000000) only [dsetS, List.map_cons, List.map_nil, simpS, ↓condJ_true, ↓condJ_false, ↓reduceIte, Nat.reduceEqDiff, Nat.reduceLT, Nat.reduceLeDiff, reduceCtorEq, Nat.reduceAdd, Nat.reduceSub, bindG_none, addG_none, hgrpK_none, nestK_none, hgrpK_guarded, Option.map_none, beq_self_eq_true, bne_self_eq_false, Option.map_some, if_true, if_false, List.getD_cons_zero, List.getD_cons_succ, List.length_cons, List.length_nil, List.mem_cons, List.not_mem_nil, List.mem_append, List.nil_append, List.cons_append, List.append_nil, List.take_succ_cons, List.take_zero, List.drop_succ_cons, List.drop_zero, List.set_cons_zero, List.set_cons_succ, List.map_cons, List.map_nil, implies_true, forall_const, ne_eq, hnt', o0, o1, valV, List.getD_cons_zero, List.getD_cons_succ, p1, p2, p3, p4, Int.toNat_natCast, Int.natCast_nonneg]
          first | exact (drS_upd (by decide) (by decide)).symm | exact ⟨rfl, (drS_upd (by decide) (by decide)).symm⟩
        · simp -implicitDefEqProofs (maxSteps := 3000000) only [dsetS, List.map_cons, List.map_nil, simpS, ↓condJ_true, ↓condJ_false, ↓reduceIte, Nat.reduceEqDiff, Nat.reduceLT, Nat.reduceLeDiff, reduceCtorEq, Nat.reduceAdd, Nat.reduceSub, bindG_none, addG_none, hgrpK_none, nestK_none, hgrpK_guarded, Option.map_none, beq_self_eq_true, bne_self_eq_false, Option.map_some, if_true, if_false, List.getD_cons_zero, List.getD_cons_succ, List.length_cons, List.length_nil, List.mem_cons, List.not_mem_nil, List.mem_append, List.nil_append, List.cons_append, List.append_nil, List.take_succ_cons, List.take_zero, List.drop_succ_cons, List.drop_zero, List.set_cons_zero, List.set_cons_succ, List.map_cons, List.map_nil, implies_true, forall_const, ne_eq, hnt', o0, o1, valV, List.getD_cons_zero, List.getD_cons_succ, p1, p2, p3, p4, Int.toNat_natCast, Int.natCast_nonneg]
          first | exact (drS_upd (by decide) (by decide)).symm | exact ⟨rfl, (drS_upd (by decide) (by decide)).symm⟩
        · simp -implicitDefEqProofs (maxSteps := 3000000) only [dsetS, List.map_cons, List.map_nil, simpS, ↓condJ_true, ↓condJ_false, ↓reduceIte, Nat.reduceEqDiff, Nat.reduceLT, Nat.reduceLeDiff, reduceCtorEq, Nat.reduceAdd, Nat.reduceSub, bindG_none, addG_none, hgrpK_none, nestK_none, hgrpK_guarded, Option.map_none, beq_self_eq_true, bne_self_eq_false, Option.map_some, if_true, if_false, List.getD_cons_zero, List.getD_cons_succ, List.length_cons, List.length_nil, List.mem_cons, List.not_mem_nil, List.mem_append, List.nil_append, List.cons_append, List.append_nil, List.take_succ_cons, List.take_zero, List.drop_succ_cons, List.drop_zero, List.set_cons_zero, List.set_cons_succ, List.map_cons, List.map_nil, implies_true, forall_const, ne_eq, hnt', o0, o1, valV, List.getD_cons_zero, List.getD_cons_succ, p1, p2, p3, p4, Int.toNat_natCast, Int.natCast_nonneg]
          first | exact (drS_upd (by decide) (by decide)).symm | exact ⟨rfl, (drS_upd (by decide) (by decide)).symm⟩
        · have hb : L 18 = false := by
            cases hb : L 18
            · rfl
            · have := hC 18 _ rfl hb 17 (by decide)
              rw [this] at hi
              cases hi
          rw [drS_0 hi hb]
          simp -implicitDefEqProofs (maxSteps := 3000000) only [dsetS, List.map_cons, List.map_nil, simpS, ↓condJ_true, ↓condJ_false, ↓reduceIte, Nat.reduceEqDiff, Nat.reduceLT, Nat.reduceLeDiff, reduceCtorEq, Nat.reduceAdd, Nat.reduceSub, bindG_none, addG_none, hgrpK_none, nestK_none, hgrpK_guarded, Option.map_none, beq_self_eq_true, bne_self_eq_false, Option.map_some, if_true, if_false, List.getD_cons_zero, List.getD_cons_succ, List.length_cons, List.length_nil, List.mem_cons, List.not_mem_nil, List.mem_append, List.nil_append, List.cons_append, List.append_nil, List.take_succ_cons, List.take_zero, List.drop_succ_cons, List.drop_zero, List.set_cons_zero, List.set_cons_succ, List.map_cons, List.map_nil, implies_true, forall_const, ne_eq, hnt', o0, o1, valV, List.getD_cons_zero, List.getD_cons_succ, p1, p2, p3, p4, Int.toNat_natCast, Int.natCast_nonneg]
          first | exact (drS_a hb (by decide)).symm | exact ⟨rfl, (drS_a hb (by decide)).symm⟩
        · have hb : L 17 = true := ha 17 (by decide)
          rw [drS_1 hb hi]
          simp -implicitDefEqProofs (maxSteps := 3000000) only [dsetS, List.map_cons, List.map_nil, simpS, ↓condJ_true, ↓condJ_false, ↓reduceIte, Nat.reduceEqDiff, Nat.reduceLT, Nat.reduceLeDiff, reduceCtorEq, Nat.reduceAdd, Nat.reduceSub, bindG_none, addG_none, hgrpK_none, nestK_none, hgrpK_guarded, Option.map_none, beq_self_eq_true, bne_self_eq_false, Option.map_some, if_true, if_false, List.getD_cons_zero, List.getD_cons_succ, List.length_cons, List.length_nil, List.mem_cons, List.not_mem_nil, List.mem_append, List.nil_append, List.cons_append, List.append_nil, List.take_succ_cons, List.take_zero, List.drop_succ_cons, List.drop_zero, List.set_cons_zero, List.set_cons_succ, List.map_cons, List.map_nil, implies_true, forall_const, ne_eq, hnt', o0, o1, valV, List.getD_cons_zero, List.getD_cons_succ, p1, p2, p3, p4, Int.toNat_natCast, Int.natCast_nonneg]
          first | exact drS_b.symm | exact ⟨rfl, drS_b.symm⟩
      · intro L hall
        have hs : ∀ S0 S1 S2 : St, drS S0 S1 S2 17 18 L = S2 := fun _ _ _ => by
          unfold drS
          rw [if_pos (hall 18 (by decide))]
        rw [hs]
        simp -implicitDefEqProofs (maxSteps := 3000000) only [dsetS, List.map_cons, List.map_nil, simpS, ↓condJ_true, ↓condJ_false, ↓reduceIte, Nat.reduceEqDiff, Nat.reduceLT, Nat.reduceLeDiff, reduceCtorEq, Nat.reduceAdd, Nat.reduceSub, bindG_none, addG_none, hgrpK_none, nestK_none, hgrpK_guarded, Option.map_none, beq_self_eq_true, bne_self_eq_false, Option.map_some, if_true, if_false, List.getD_cons_zero, List.getD_cons_succ, List.length_cons, List.length_nil, List.mem_cons, List.not_mem_nil, List.mem_append, List.nil_append, List.cons_append, List.append_nil, List.take_succ_cons, List.take_zero, List.drop_succ_cons, List.drop_zero, List.set_cons_zero, List.set_cons_succ, List.map_cons, List.map_nil, implies_true, forall_const, ne_eq, hnt', valV, List.getD_cons_zero, List.getD_cons_succ]
        have hwn : IntKind.i64.wrap ((c.n : Int) + 1) = ((c.n + 1 : Nat) : Int) := by
          have := hc.len; have := hc.small
          rw [IntWalk.i64_in _ (by omega)]; rfl
        refine hgo_sound 60 ?_
        simp -implicitDefEqProofs (maxSteps := 1000000) only [simpS, ↓condJ_true, ↓condJ_false, ↓reduceIte, Nat.reduceEqDiff, Nat.reduceLT, Nat.reduceLeDiff, reduceCtorEq, Nat.reduceAdd, Nat.reduceSub, bindG_none, addG_none, hgrpK_none, nestK_none, hgrpK_guarded, Option.map_none, beq_self_eq_true, bne_self_eq_false, Option.map_some, if_true, if_false, List.getD_cons_zero, List.getD_cons_succ, List.length_cons, List.length_nil, List.mem_cons, List.not_mem_nil, List.mem_append, List.nil_append, List.cons_append, List.append_nil, List.take_succ_cons, List.take_zero, List.drop_succ_cons, List.drop_zero, List.set_cons_zero, List.set_cons_succ, List.map_cons, List.map_nil, implies_true, forall_const, ne_eq, hwn]
        refine hx_drawgo 4 ?_
        simp -implicitDefEqProofs (maxSteps := 100000000) only [drawS, List.map_cons, List.map_nil, List.getElem?_cons_zero, List.getElem?_cons_succ, List.getElem?_nil, simpS, ↓condJ_true, ↓condJ_false, ↓reduceIte, Nat.reduceEqDiff, Nat.reduceLT, Nat.reduceLeDiff, reduceCtorEq, Nat.reduceAdd, Nat.reduceSub, bindG_none, addG_none, hgrpK_none, nestK_none, hgrpK_guarded, Option.map_none, beq_self_eq_true, bne_self_eq_false, Option.map_some, if_true, if_false, List.getD_cons_zero, List.getD_cons_succ, List.length_cons, List.length_nil, List.mem_cons, List.not_mem_nil, List.mem_append, List.nil_append, List.cons_append, List.append_nil, List.take_succ_cons, List.take_zero, List.drop_succ_cons, List.drop_zero, List.set_cons_zero, List.set_cons_succ, List.map_cons, List.map_nil, implies_true, forall_const, ne_eq, hnt']
        refine hgo_sound 60 ?_
        simp -implicitDefEqProofs (maxSteps := 1000000) only [simpS, ↓condJ_true, ↓condJ_false, ↓reduceIte, Nat.reduceEqDiff, Nat.reduceLT, Nat.reduceLeDiff, reduceCtorEq, Nat.reduceAdd, Nat.reduceSub, bindG_none, addG_none, hgrpK_none, nestK_none, hgrpK_guarded, Option.map_none, beq_self_eq_true, bne_self_eq_false, Option.map_some, if_true, if_false, List.getD_cons_zero, List.getD_cons_succ, List.length_cons, List.length_nil, List.mem_cons, List.not_mem_nil, List.mem_append, List.nil_append, List.cons_append, List.append_nil, List.take_succ_cons, List.take_zero, List.drop_succ_cons, List.drop_zero, List.set_cons_zero, List.set_cons_succ, List.map_cons, List.map_nil, implies_true, forall_const, ne_eq]
        rw [ht]
        exact fp_cell2 (by rw [hnx]; exact Nat.le_refl _) hwf ((((((Ext.refl _).new _).new _).new _).new _).new _) rfl (by simp [St.obj_new, St.next_new]; rfl) rfl (encR_lt { c with n := c.n + 1, la := x.t } _) rfl (by simp [St.obj_new, St.next_new]; rfl) rfl (node_lt _) wk_node

theorem rany_calls (c : Cu) (hc : c.ok) (hlk : c.lok) (k : Int) (σ : St) : HCalls Tryz.prog 9 [.agg (encR c), .int .i64 k] σ (fun d σ' => d = .tuple [.agg (encR (anyC c k).1), .agg (encN (anyC c k).2)] ∧ σ' = σ) := by
  refine hcalls_body (fn := Tryz.f9) rfl c9 (by simp [h9]) (by simp [h9, Tryz.f9]) ?_
  intro M hP hr hnt hnx hwf hlt
  simp only [h9, argEnv]
  have hnt' : M.nt = 20 := hnt
  refine hgo_sound 60 ?_
  simp -implicitDefEqProofs (maxSteps := 1000000) only [simpS, ↓condJ_true, ↓condJ_false, ↓reduceIte, Nat.reduceEqDiff, Nat.reduceLT, Nat.reduceLeDiff, reduceCtorEq, Nat.reduceAdd, Nat.reduceSub, bindG_none, addG_none, hgrpK_none, nestK_none, hgrpK_guarded, Option.map_none, beq_self_eq_true, bne_self_eq_false, Option.map_some, if_true, if_false, List.getD_cons_zero, List.getD_cons_succ, List.length_cons, List.length_nil, List.mem_cons, List.not_mem_nil, List.mem_append, List.nil_append, List.cons_append, List.append_nil, List.take_succ_cons, List.take_zero, List.drop_succ_cons, List.drop_zero, List.set_cons_zero, List.set_cons_succ, List.map_cons, List.map_nil, implies_true, forall_const, ne_eq]
  refine hx_call (f := .fn 25) rfl (by rw [hP]; exact hcallD_func (rpeek_calls c hc 0 _)) ?_
  rintro _ σ2 ⟨rfl, h⟩
  subst σ2
  refine hgo_sound 60 ?_
  simp -implicitDefEqProofs (maxSteps := 1000000) only [simpS, ↓condJ_true, ↓condJ_false, ↓reduceIte, Nat.reduceEqDiff, Nat.reduceLT, Nat.reduceLeDiff, reduceCtorEq, Nat.reduceAdd, Nat.reduceSub, bindG_none, addG_none, hgrpK_none, nestK_none, hgrpK_guarded, Option.map_none, beq_self_eq_true, bne_self_eq_false, Option.map_some, if_true, if_false, List.getD_cons_zero, List.getD_cons_succ, List.length_cons, List.length_nil, List.mem_cons, List.not_mem_nil, List.mem_append, List.nil_append, List.cons_append, List.append_nil, List.take_succ_cons, List.take_zero, List.drop_succ_cons, List.drop_zero, List.set_cons_zero, List.set_cons_succ, List.map_cons, List.map_nil, implies_true, forall_const, ne_eq]
  refine hx_call (f := .fn 26) rfl (by rw [hP]; exact hcallD_func (rtake_calls c hc hlk (((peekC c 0).1 : Int) == k) _)) ?_
  rintro _ σ2 ⟨rfl, h⟩
  subst σ2
  rw [show takeC c (((peekC c 0).1 : Int) == k) = anyC c k from rfl]
  refine hgo_sound 60 ?_
  simp -implicitDefEqProofs (maxSteps := 1000000) only [simpS, ↓condJ_true, ↓condJ_false, ↓reduceIte, Nat.reduceEqDiff, Nat.reduceLT, Nat.reduceLeDiff, reduceCtorEq, Nat.reduceAdd, Nat.reduceSub, bindG_none, addG_none, hgrpK_none, nestK_none, hgrpK_guarded, Option.map_none, beq_self_eq_true, bne_self_eq_false, Option.map_some, if_true, if_false, List.getD_cons_zero, List.getD_cons_succ, List.length_cons, List.length_nil, List.mem_cons, List.not_mem_nil, List.mem_append, List.nil_append, List.cons_append, List.append_nil, List.take_succ_cons, List.take_zero, List.drop_succ_cons, List.drop_zero, List.set_cons_zero, List.set_cons_succ, List.map_cons, List.map_nil, implies_true, forall_const, ne_eq, encN_length]
  exact fp_cell2 (by rw [hnx]; exact Nat.le_refl _) hwf ((((Ext.refl _).new _).new _).new _) rfl (by simp [St.obj_new, St.next_new]; rfl) rfl (encR_lt (anyC c k).1 _) rfl (by simp [St.obj_new, St.next_new]; rfl) (encN_length _) (encN_lt _ _) (.refl _)

theorem rwant_calls (c : Cu) (hc : c.ok) (hlk : c.lok) (x : ByteArray) (σ : St) : HCalls Tryz.prog 12 [.agg (encR c), .str x] σ (fun d σ' => d = .tuple [.agg (encR (wantC c x).1), .agg (encN (wantC c x).2)] ∧ σ' = σ) := by
  refine hcalls_body (fn := Tryz.f12) rfl c12 (by simp [h12]) (by simp [h12, Tryz.f12]) ?_
  intro M hP hr hnt hnx hwf hlt
  simp only [h12, argEnv]
  have hnt' : M.nt = 13 := hnt
  refine hgo_sound 60 ?_
  simp -implicitDefEqProofs (maxSteps := 1000000) only [simpS, ↓condJ_true, ↓condJ_false, ↓reduceIte, Nat.reduceEqDiff, Nat.reduceLT, Nat.reduceLeDiff, reduceCtorEq, Nat.reduceAdd, Nat.reduceSub, bindG_none, addG_none, hgrpK_none, nestK_none, hgrpK_guarded, Option.map_none, beq_self_eq_true, bne_self_eq_false, Option.map_some, if_true, if_false, List.getD_cons_zero, List.getD_cons_succ, List.length_cons, List.length_nil, List.mem_cons, List.not_mem_nil, List.mem_append, List.nil_append, List.cons_append, List.append_nil, List.take_succ_cons, List.take_zero, List.drop_succ_cons, List.drop_zero, List.set_cons_zero, List.set_cons_succ, List.map_cons, List.map_nil, implies_true, forall_const, ne_eq]
  refine hx_drawgo 1 ?_
  simp -implicitDefEqProofs (maxSteps := 100000000) only [drawS, List.map_cons, List.map_nil, List.getElem?_cons_zero, List.getElem?_cons_succ, List.getElem?_nil, simpS, ↓condJ_true, ↓condJ_false, ↓reduceIte, Nat.reduceEqDiff, Nat.reduceLT, Nat.reduceLeDiff, reduceCtorEq, Nat.reduceAdd, Nat.reduceSub, bindG_none, addG_none, hgrpK_none, nestK_none, hgrpK_guarded, Option.map_none, beq_self_eq_true, bne_self_eq_false, Option.map_some, if_true, if_false, List.getD_cons_zero, List.getD_cons_succ, List.length_cons, List.length_nil, List.mem_cons, List.not_mem_nil, List.mem_append, List.nil_append, List.cons_append, List.append_nil, List.take_succ_cons, List.take_zero, List.drop_succ_cons, List.drop_zero, List.set_cons_zero, List.set_cons_succ, List.map_cons, List.map_nil, implies_true, forall_const, ne_eq, hnt']
  refine hd_call (i := 3) (f := .fn 30) (by simp -implicitDefEqProofs (maxSteps := 100000000) only [drawS, List.map_cons, List.map_nil, List.getElem?_cons_zero, List.getElem?_cons_succ, List.getElem?_nil, simpS, ↓condJ_true, ↓condJ_false, ↓reduceIte, Nat.reduceEqDiff, Nat.reduceLT, Nat.reduceLeDiff, reduceCtorEq, Nat.reduceAdd, Nat.reduceSub, bindG_none, addG_none, hgrpK_none, nestK_none, hgrpK_guarded, Option.map_none, beq_self_eq_true, bne_self_eq_false, Option.map_some, if_true, if_false, List.getD_cons_zero, List.getD_cons_succ, List.length_cons, List.length_nil, List.mem_cons, List.not_mem_nil, List.mem_append, List.nil_append, List.cons_append, List.append_nil, List.take_succ_cons, List.take_zero, List.drop_succ_cons, List.drop_zero, List.set_cons_zero, List.set_cons_succ, List.map_cons, List.map_nil, implies_true, forall_const, ne_eq, hnt']) (by rfl) (by rfl) rfl (by rfl) (by rw [hP]; exact hcallD_func (ris_calls c hc 0 x _)) ?_
  rintro _ σ2 ⟨rfl, h⟩
  subst σ2
  refine hdgo_sound 1 ?_
  simp -implicitDefEqProofs (maxSteps := 3000000) only [drawS, List.map_cons, List.map_nil, List.getElem?_cons_zero, List.getElem?_cons_succ, List.getElem?_nil, simpS, ↓condJ_true, ↓condJ_false, ↓reduceIte, Nat.reduceEqDiff, Nat.reduceLT, Nat.reduceLeDiff, reduceCtorEq, Nat.reduceAdd, Nat.reduceSub, bindG_none, addG_none, hgrpK_none, nestK_none, hgrpK_guarded, Option.map_none, beq_self_eq_true, bne_self_eq_false, Option.map_some, if_true, if_false, List.getD_cons_zero, List.getD_cons_succ, List.length_cons, List.length_nil, List.mem_cons, List.not_mem_nil, List.mem_append, List.nil_append, List.cons_append, List.append_nil, List.take_succ_cons, List.take_zero, List.drop_succ_cons, List.drop_zero, List.set_cons_zero, List.set_cons_succ, List.map_cons, List.map_nil, implies_true, forall_const, ne_eq, hnt']
  refine hd_call (i := 4) (f := .fn 26) (by simp -implicitDefEqProofs (maxSteps := 100000000) only [drawS, List.map_cons, List.map_nil, List.getElem?_cons_zero, List.getElem?_cons_succ, List.getElem?_nil, simpS, ↓condJ_true, ↓condJ_false, ↓reduceIte, Nat.reduceEqDiff, Nat.reduceLT, Nat.reduceLeDiff, reduceCtorEq, Nat.reduceAdd, Nat.reduceSub, bindG_none, addG_none, hgrpK_none, nestK_none, hgrpK_guarded, Option.map_none, beq_self_eq_true, bne_self_eq_false, Option.map_some, if_true, if_false, List.getD_cons_zero, List.getD_cons_succ, List.length_cons, List.length_nil, List.mem_cons, List.not_mem_nil, List.mem_append, List.nil_append, List.cons_append, List.append_nil, List.take_succ_cons, List.take_zero, List.drop_succ_cons, List.drop_zero, List.set_cons_zero, List.set_cons_succ, List.map_cons, List.map_nil, implies_true, forall_const, ne_eq, hnt', encN_length]) (by rfl) (by rfl) rfl (by rfl) (by rw [hP]; exact hcallD_func (rtake_calls c hc hlk (isC c 0 x) _)) ?_
  rintro _ σ2 ⟨rfl, h⟩
  subst σ2
  refine hdgo_sound 3 ?_
  simp -implicitDefEqProofs (maxSteps := 3000000) only [drawS, List.map_cons, List.map_nil, List.getElem?_cons_zero, List.getElem?_cons_succ, List.getElem?_nil, simpS, ↓condJ_true, ↓condJ_false, ↓reduceIte, Nat.reduceEqDiff, Nat.reduceLT, Nat.reduceLeDiff, reduceCtorEq, Nat.reduceAdd, Nat.reduceSub, bindG_none, addG_none, hgrpK_none, nestK_none, hgrpK_guarded, Option.map_none, beq_self_eq_true, bne_self_eq_false, Option.map_some, if_true, if_false, List.getD_cons_zero, List.getD_cons_succ, List.length_cons, List.length_nil, List.mem_cons, List.not_mem_nil, List.mem_append, List.nil_append, List.cons_append, List.append_nil, List.take_succ_cons, List.take_zero, List.drop_succ_cons, List.drop_zero, List.set_cons_zero, List.set_cons_succ, List.map_cons, List.map_nil, implies_true, forall_const, ne_eq, hnt', encN_length]
  rw [show takeC c (isC c 0 x) = wantC c x from rfl]
  refine hgo_sound 60 ?_
  simp -implicitDefEqProofs (maxSteps := 1000000) only [simpS, ↓condJ_true, ↓condJ_false, ↓reduceIte, Nat.reduceEqDiff, Nat.reduceLT, Nat.reduceLeDiff, reduceCtorEq, Nat.reduceAdd, Nat.reduceSub, bindG_none, addG_none, hgrpK_none, nestK_none, hgrpK_guarded, Option.map_none, beq_self_eq_true, bne_self_eq_false, Option.map_some, if_true, if_false, List.getD_cons_zero, List.getD_cons_succ, List.length_cons, List.length_nil, List.mem_cons, List.not_mem_nil, List.mem_append, List.nil_append, List.cons_append, List.append_nil, List.take_succ_cons, List.take_zero, List.drop_succ_cons, List.drop_zero, List.set_cons_zero, List.set_cons_succ, List.map_cons, List.map_nil, implies_true, forall_const, ne_eq, encN_length]
  exact fp_cell2 (by rw [hnx]; exact Nat.le_refl _) hwf ((((Ext.refl _).new _).new _).new _) rfl (by simp [St.obj_new, St.next_new]; rfl) rfl (encR_lt (wantC c x).1 _) rfl (by simp [St.obj_new, St.next_new]; rfl) (encN_length _) (encN_lt _ _) (.refl _)

end Go.Hl
