/-
  Layer 8: the law CursorPlays.
-/
import Derived.Test.YtijcddlahidhhaaGreatDoorCuH
import Derived.Test.YtijcddlahidhhaaGreatDoorHlP
import Derived.SizedLaws
import Derived.Test.YtijcddlahidhhaaGreatDoorHlS
import Derived.LaidLaws
import Derived.Test.YtijcddlahidhhaaGreatDoorLxB
import Derived.Handed
import Derived.Shelf.Vars
import Derived.ProofKit
import Derived.Carry
import Derived.OpenShut
import Derived.ChangeMaps5
import Derived.SevenTiedAt
import Derived.Test.YtijcddlahidhhaaGreatDoorRows
import Derived.LaidHandle
set_option linter.unusedSectionVars false
set_option linter.unusedVariables false
set_option linter.unusedSimpArgs false
set_option maxRecDepth 100000
namespace Go.Hl
open Go Go.Proofs Go.RowKit

structure PlS where
  i : Nat
  c : Cu

def plS (σ : St) (c : Cu) : St := (σ.new (.box (encC c))).new (.box (encR c))
theorem plS_wf {σ : St} (hwf : σ.wf) (c : Cu) : (plS σ c).wf := (hwf.box (encC_lt c _)).box (encR_lt c _)

set_option maxHeartbeats 8000000 in
theorem cursorPlays_calls (s : ByteArray) (l : List Act8) (σ : St) (hg : GM σ) : HCalls Tryz.prog 3 [.str s, .slice .no 4 (encAs l)] σ (fun d σ' => d = .bool true ∧ σ' = σ) := by
  refine hcalls_body (fn := Tryz.f3) rfl c3 (by simp [h3]) (by simp [h3, Tryz.f3]) ?_
  intro M hP hr hnt hnx hwf hlt
  simp only [h3, argEnv]
  have hnt' : M.nt = 146 := hnt
  refine hgo_sound 60 ?_
  simp -implicitDefEqProofs (maxSteps := 1000000) only [simpS, ↓condJ_true, ↓condJ_false, ↓reduceIte, Nat.reduceEqDiff, Nat.reduceLT, Nat.reduceLeDiff, reduceCtorEq, Nat.reduceAdd, Nat.reduceSub, bindG_none, addG_none, hgrpK_none, nestK_none, hgrpK_guarded, Option.map_none, beq_self_eq_true, bne_self_eq_false, Option.map_some, if_true, if_false, List.getD_cons_zero, List.getD_cons_succ, List.length_cons, List.length_nil, List.mem_cons, List.not_mem_nil, List.mem_append, List.nil_append, List.cons_append, List.append_nil, List.take_succ_cons, List.take_zero, List.drop_succ_cons, List.drop_zero, List.set_cons_zero, List.set_cons_succ, List.map_cons, List.map_nil, implies_true, forall_const, ne_eq]
  refine hx_call (f := .fn 4) rfl (by rw [hP]; exact hcallD_func (calive_calls _ hg)) ?_
  rintro _ σ2 ⟨rfl, h⟩
  subst σ2
  by_cases h5 : s.size ≤ 5000
  rotate_left
  · have d5 : decide ((s.size : Int) > 5000) = true := decide_eq_true (by omega)
    refine hgo_sound 60 ?_
    simp -implicitDefEqProofs (maxSteps := 1000000) only [simpS, ↓condJ_true, ↓condJ_false, ↓reduceIte, Nat.reduceEqDiff, Nat.reduceLT, Nat.reduceLeDiff, reduceCtorEq, Nat.reduceAdd, Nat.reduceSub, bindG_none, addG_none, hgrpK_none, nestK_none, hgrpK_guarded, Option.map_none, beq_self_eq_true, bne_self_eq_false, Option.map_some, if_true, if_false, List.getD_cons_zero, List.getD_cons_succ, List.length_cons, List.length_nil, List.mem_cons, List.not_mem_nil, List.mem_append, List.nil_append, List.cons_append, List.append_nil, List.take_succ_cons, List.take_zero, List.drop_succ_cons, List.drop_zero, List.set_cons_zero, List.set_cons_succ, List.map_cons, List.map_nil, implies_true, forall_const, ne_eq, d5]
    exact fpost_pure (σ0 := σ) (.inr rfl) (by rw [hnx]; exact Nat.le_refl _) hwf (by first | exact Sub.refl σ | exact (((Ext.refl _).new _).sub hwf)) rfl trivial (by repeat' (first | trivial | apply And.intro)) ⟨rfl, rfl⟩
  have d5 : decide ((s.size : Int) > 5000) = false := decide_eq_false (by omega)
  by_cases hl : l.length ≤ 300
  rotate_left
  · have d6 : decide ((l.length : Int) > 300) = true := decide_eq_true (by omega)
    refine hgo_sound 60 ?_
    simp -implicitDefEqProofs (maxSteps := 1000000) only [simpS, ↓condJ_true, ↓condJ_false, ↓reduceIte, Nat.reduceEqDiff, Nat.reduceLT, Nat.reduceLeDiff, reduceCtorEq, Nat.reduceAdd, Nat.reduceSub, bindG_none, addG_none, hgrpK_none, nestK_none, hgrpK_guarded, Option.map_none, beq_self_eq_true, bne_self_eq_false, Option.map_some, if_true, if_false, List.getD_cons_zero, List.getD_cons_succ, List.length_cons, List.length_nil, List.mem_cons, List.not_mem_nil, List.mem_append, List.nil_append, List.cons_append, List.append_nil, List.take_succ_cons, List.take_zero, List.drop_succ_cons, List.drop_zero, List.set_cons_zero, List.set_cons_succ, List.map_cons, List.map_nil, implies_true, forall_const, ne_eq, d5, d6, encAs_length]
    exact fpost_pure (σ0 := σ) (.inr rfl) (by rw [hnx]; exact Nat.le_refl _) hwf (by first | exact Sub.refl σ | exact (((Ext.refl _).new _).sub hwf)) rfl trivial (by repeat' (first | trivial | apply And.intro)) ⟨rfl, rfl⟩
  have d6 : decide ((l.length : Int) > 300) = false := decide_eq_false (by omega)
  refine hgo_sound 60 ?_
  simp -implicitDefEqProofs (maxSteps := 1000000) only [simpS, ↓condJ_true, ↓condJ_false, ↓reduceIte, Nat.reduceEqDiff, Nat.reduceLT, Nat.reduceLeDiff, reduceCtorEq, Nat.reduceAdd, Nat.reduceSub, bindG_none, addG_none, hgrpK_none, nestK_none, hgrpK_guarded, Option.map_none, beq_self_eq_true, bne_self_eq_false, Option.map_some, if_true, if_false, List.getD_cons_zero, List.getD_cons_succ, List.length_cons, List.length_nil, List.mem_cons, List.not_mem_nil, List.mem_append, List.nil_append, List.cons_append, List.append_nil, List.take_succ_cons, List.take_zero, List.drop_succ_cons, List.drop_zero, List.set_cons_zero, List.set_cons_succ, List.map_cons, List.map_nil, implies_true, forall_const, ne_eq, d5, d6, encAs_length]
  have n22 : (((2 : Nat) : Int) != 2) = false := rfl
  have n44 : (((4 : Nat) : Int) != 4) = false := rfl
  have n20 : ((2 : Int) != 0) = true := rfl
  have n40 : ((4 : Int) != 0) = true := rfl
  have n00 : ((0 : Int) != 0) = false := rfl
  have q40 : ((4000 : Int) != 4000) = false := rfl
  by_cases h4 : s.size ≤ 4000
  rotate_left
  · refine hx_call (f := .fn 5) rfl (by rw [hP]; exact hcallD_func (new_large s h4 _)) ?_
    rintro _ σ2 ⟨rfl, h⟩
    subst σ2
    refine hgo_sound 60 ?_
    simp -implicitDefEqProofs (maxSteps := 1000000) only [simpS, ↓condJ_true, ↓condJ_false, ↓reduceIte, Nat.reduceEqDiff, Nat.reduceLT, Nat.reduceLeDiff, reduceCtorEq, Nat.reduceAdd, Nat.reduceSub, bindG_none, addG_none, hgrpK_none, nestK_none, hgrpK_guarded, Option.map_none, beq_self_eq_true, bne_self_eq_false, Option.map_some, if_true, if_false, List.getD_cons_zero, List.getD_cons_succ, List.length_cons, List.length_nil, List.mem_cons, List.not_mem_nil, List.mem_append, List.nil_append, List.cons_append, List.append_nil, List.take_succ_cons, List.take_zero, List.drop_succ_cons, List.drop_zero, List.set_cons_zero, List.set_cons_succ, List.map_cons, List.map_nil, implies_true, forall_const, ne_eq]
    refine hx_call (f := .fn 6) rfl (by rw [hP]; exact hcallD_func (rnew_large s h4 _)) ?_
    rintro _ σ2 ⟨rfl, h⟩
    subst σ2
    refine hgo_sound 60 ?_
    simp -implicitDefEqProofs (maxSteps := 1000000) only [simpS, ↓condJ_true, ↓condJ_false, ↓reduceIte, Nat.reduceEqDiff, Nat.reduceLT, Nat.reduceLeDiff, reduceCtorEq, Nat.reduceAdd, Nat.reduceSub, bindG_none, addG_none, hgrpK_none, nestK_none, hgrpK_guarded, Option.map_none, beq_self_eq_true, bne_self_eq_false, Option.map_some, if_true, if_false, List.getD_cons_zero, List.getD_cons_succ, List.length_cons, List.length_nil, List.mem_cons, List.not_mem_nil, List.mem_append, List.nil_append, List.cons_append, List.append_nil, List.take_succ_cons, List.take_zero, List.drop_succ_cons, List.drop_zero, List.set_cons_zero, List.set_cons_succ, List.map_cons, List.map_nil, implies_true, forall_const, ne_eq]
    refine hx_call (f := .fn 7) rfl (by rw [hP]; exact hcallD_func (num_calls ((4 : Nat) : Int) _)) ?_
    rintro _ σ2 ⟨rfl, h⟩
    subst σ2
    refine hgo_sound 60 ?_
    simp -implicitDefEqProofs (maxSteps := 1000000) only [simpS, ↓condJ_true, ↓condJ_false, ↓reduceIte, Nat.reduceEqDiff, Nat.reduceLT, Nat.reduceLeDiff, reduceCtorEq, Nat.reduceAdd, Nat.reduceSub, bindG_none, addG_none, hgrpK_none, nestK_none, hgrpK_guarded, Option.map_none, beq_self_eq_true, bne_self_eq_false, Option.map_some, if_true, if_false, List.getD_cons_zero, List.getD_cons_succ, List.length_cons, List.length_nil, List.mem_cons, List.not_mem_nil, List.mem_append, List.nil_append, List.cons_append, List.append_nil, List.take_succ_cons, List.take_zero, List.drop_succ_cons, List.drop_zero, List.set_cons_zero, List.set_cons_succ, List.map_cons, List.map_nil, implies_true, forall_const, ne_eq, n44, n40, q40]
    exact fpost_pure (σ0 := σ) (.inr rfl) (by rw [hnx]; exact Nat.le_refl _) hwf (((Ext.refl _).new _).sub hwf) rfl trivial trivial ⟨rfl, rfl⟩
  cases hb : badAt (toks s.data.toList 0) with
  | some f =>
    have qf : ((f : Int) != (f : Int)) = false := by simp
    refine hx_call (f := .fn 5) rfl (by rw [hP]; exact hcallD_func (new_bad s h4 f hb _ hg)) ?_
    rintro _ σ2 ⟨rfl, h⟩
    subst σ2
    refine hgo_sound 60 ?_
    simp -implicitDefEqProofs (maxSteps := 1000000) only [simpS, ↓condJ_true, ↓condJ_false, ↓reduceIte, Nat.reduceEqDiff, Nat.reduceLT, Nat.reduceLeDiff, reduceCtorEq, Nat.reduceAdd, Nat.reduceSub, bindG_none, addG_none, hgrpK_none, nestK_none, hgrpK_guarded, Option.map_none, beq_self_eq_true, bne_self_eq_false, Option.map_some, if_true, if_false, List.getD_cons_zero, List.getD_cons_succ, List.length_cons, List.length_nil, List.mem_cons, List.not_mem_nil, List.mem_append, List.nil_append, List.cons_append, List.append_nil, List.take_succ_cons, List.take_zero, List.drop_succ_cons, List.drop_zero, List.set_cons_zero, List.set_cons_succ, List.map_cons, List.map_nil, implies_true, forall_const, ne_eq]
    refine hx_call (f := .fn 6) rfl (by rw [hP]; exact hcallD_func (rnew_bad s h4 f hb _)) ?_
    rintro _ σ2 ⟨rfl, h⟩
    subst σ2
    refine hgo_sound 60 ?_
    simp -implicitDefEqProofs (maxSteps := 1000000) only [simpS, ↓condJ_true, ↓condJ_false, ↓reduceIte, Nat.reduceEqDiff, Nat.reduceLT, Nat.reduceLeDiff, reduceCtorEq, Nat.reduceAdd, Nat.reduceSub, bindG_none, addG_none, hgrpK_none, nestK_none, hgrpK_guarded, Option.map_none, beq_self_eq_true, bne_self_eq_false, Option.map_some, if_true, if_false, List.getD_cons_zero, List.getD_cons_succ, List.length_cons, List.length_nil, List.mem_cons, List.not_mem_nil, List.mem_append, List.nil_append, List.cons_append, List.append_nil, List.take_succ_cons, List.take_zero, List.drop_succ_cons, List.drop_zero, List.set_cons_zero, List.set_cons_succ, List.map_cons, List.map_nil, implies_true, forall_const, ne_eq]
    refine hx_call (f := .fn 7) rfl (by rw [hP]; exact hcallD_func (num_calls ((2 : Nat) : Int) _)) ?_
    rintro _ σ2 ⟨rfl, h⟩
    subst σ2
    refine hgo_sound 60 ?_
    simp -implicitDefEqProofs (maxSteps := 1000000) only [simpS, ↓condJ_true, ↓condJ_false, ↓reduceIte, Nat.reduceEqDiff, Nat.reduceLT, Nat.reduceLeDiff, reduceCtorEq, Nat.reduceAdd, Nat.reduceSub, bindG_none, addG_none, hgrpK_none, nestK_none, hgrpK_guarded, Option.map_none, beq_self_eq_true, bne_self_eq_false, Option.map_some, if_true, if_false, List.getD_cons_zero, List.getD_cons_succ, List.length_cons, List.length_nil, List.mem_cons, List.not_mem_nil, List.mem_append, List.nil_append, List.cons_append, List.append_nil, List.take_succ_cons, List.take_zero, List.drop_succ_cons, List.drop_zero, List.set_cons_zero, List.set_cons_succ, List.map_cons, List.map_nil, implies_true, forall_const, ne_eq, n22, n20, qf]
    exact fpost_pure (σ0 := σ) (.inr rfl) (by rw [hnx]; exact Nat.le_refl _) hwf (((Ext.refl _).new _).sub hwf) rfl trivial trivial ⟨rfl, rfl⟩
  | none =>
    refine hx_call (f := .fn 5) rfl (by rw [hP]; exact hcallD_func (new_good s h4 hb σ hg)) ?_
    rintro _ σ2 ⟨rfl, rfl⟩
    refine hgo_sound 60 ?_
    simp -implicitDefEqProofs (maxSteps := 1000000) only [simpS, ↓condJ_true, ↓condJ_false, ↓reduceIte, Nat.reduceEqDiff, Nat.reduceLT, Nat.reduceLeDiff, reduceCtorEq, Nat.reduceAdd, Nat.reduceSub, bindG_none, addG_none, hgrpK_none, nestK_none, hgrpK_guarded, Option.map_none, beq_self_eq_true, bne_self_eq_false, Option.map_some, if_true, if_false, List.getD_cons_zero, List.getD_cons_succ, List.length_cons, List.length_nil, List.mem_cons, List.not_mem_nil, List.mem_append, List.nil_append, List.cons_append, List.append_nil, List.take_succ_cons, List.take_zero, List.drop_succ_cons, List.drop_zero, List.set_cons_zero, List.set_cons_succ, List.map_cons, List.map_nil, implies_true, forall_const, ne_eq]
    refine hx_call (f := .fn 6) rfl (by rw [hP]; exact hcallD_func (rnew_good s h4 hb _)) ?_
    rintro _ σ2 ⟨rfl, h⟩
    subst σ2
    refine hgo_sound 60 ?_
    simp -implicitDefEqProofs (maxSteps := 1000000) only [simpS, ↓condJ_true, ↓condJ_false, ↓reduceIte, Nat.reduceEqDiff, Nat.reduceLT, Nat.reduceLeDiff, reduceCtorEq, Nat.reduceAdd, Nat.reduceSub, bindG_none, addG_none, hgrpK_none, nestK_none, hgrpK_guarded, Option.map_none, beq_self_eq_true, bne_self_eq_false, Option.map_some, if_true, if_false, List.getD_cons_zero, List.getD_cons_succ, List.length_cons, List.length_nil, List.mem_cons, List.not_mem_nil, List.mem_append, List.nil_append, List.cons_append, List.append_nil, List.take_succ_cons, List.take_zero, List.drop_succ_cons, List.drop_zero, List.set_cons_zero, List.set_cons_succ, List.map_cons, List.map_nil, implies_true, forall_const, ne_eq]
    refine hx_call (f := .fn 7) rfl (by rw [hP]; exact hcallD_func (num_calls 0 _)) ?_
    rintro _ σ2 ⟨rfl, h⟩
    subst σ2
    refine hgo_sound 60 ?_
    simp -implicitDefEqProofs (maxSteps := 1000000) only [simpS, ↓condJ_true, ↓condJ_false, ↓reduceIte, Nat.reduceEqDiff, Nat.reduceLT, Nat.reduceLeDiff, reduceCtorEq, Nat.reduceAdd, Nat.reduceSub, bindG_none, addG_none, hgrpK_none, nestK_none, hgrpK_guarded, Option.map_none, beq_self_eq_true, bne_self_eq_false, Option.map_some, if_true, if_false, List.getD_cons_zero, List.getD_cons_succ, List.length_cons, List.length_nil, List.mem_cons, List.not_mem_nil, List.mem_append, List.nil_append, List.cons_append, List.append_nil, List.take_succ_cons, List.take_zero, List.drop_succ_cons, List.drop_zero, List.set_cons_zero, List.set_cons_succ, List.map_cons, List.map_nil, implies_true, forall_const, ne_eq, n00, encAs_length]
    have hgd := start_good h4
    have hlk := lok_start s
    generalize startC s = c0 at *
    refine hx_know_code fun hw hl1 hn => ?_
    rw [show (σ.new (.box (encC c0))).new (.box (encR c0)) = plS σ c0 from rfl] at hw hl1 hn ⊢
    refine hx_loop (S := PlS) (fun t => [(5, .ptr σ.next 0), (8, .ptr (σ.next + 1) 0), (63, .slice .no 4 (encAs l)), (64, .int .i64 (l.length : Int)), (65, .int .i64 (t.i : Int))]) (fun t => plS σ t.c)
      (fun t => t.i ≤ l.length ∧ t.c.good ∧ t.c.lok) (fun t => l.length - t.i) ⟨0, c0⟩ ⟨Nat.zero_le _, hgd, hlk⟩ (fun _ _ h => by rw [hr] at h; cases h) ?_ ?_
    · exact Drop.all hw hn ⟨⟨rfl, hl1 5⟩, ⟨rfl, hl1 8⟩, ⟨rfl, encAs_slt _ _⟩, ⟨rfl, trivial⟩, ⟨rfl, trivial⟩, trivial⟩
    rintro ⟨i, c⟩ ⟨hi, hgc, hlc⟩
    simp only at hi hgc hlc ⊢
    have hok := hgc.ok
    by_cases hil : i < l.length
    rotate_left
    · have d1 : decide ((i : Int) < (l.length : Int)) = false := decide_eq_false (by omega)
      refine hgo_sound 60 ?_
      simp -implicitDefEqProofs (maxSteps := 1000000) only [simpS, ↓condJ_true, ↓condJ_false, ↓reduceIte, Nat.reduceEqDiff, Nat.reduceLT, Nat.reduceLeDiff, reduceCtorEq, Nat.reduceAdd, Nat.reduceSub, bindG_none, addG_none, hgrpK_none, nestK_none, hgrpK_guarded, Option.map_none, beq_self_eq_true, bne_self_eq_false, Option.map_some, if_true, if_false, List.getD_cons_zero, List.getD_cons_succ, List.length_cons, List.length_nil, List.mem_cons, List.not_mem_nil, List.mem_append, List.nil_append, List.cons_append, List.append_nil, List.take_succ_cons, List.take_zero, List.drop_succ_cons, List.drop_zero, List.set_cons_zero, List.set_cons_succ, List.map_cons, List.map_nil, implies_true, forall_const, ne_eq, d1, plS]
      refine hx_call (f := .fn 19) rfl (by rw [hP]; exact hcallD_func (stands_calls8 σ.next c hok hlc ⟨0, 0, 0, ⟨#[]⟩⟩ _ (by simp only [plS, simpS, ↓condJ_true, ↓condJ_false, ↓reduceIte, Nat.reduceEqDiff, Nat.reduceLT, Nat.reduceLeDiff, reduceCtorEq, Nat.reduceAdd, Nat.reduceSub, bindG_none, addG_none, hgrpK_none, nestK_none, hgrpK_guarded, Option.map_none, beq_self_eq_true, bne_self_eq_false, Option.map_some, if_true, if_false, List.getD_cons_zero, List.getD_cons_succ, List.length_cons, List.length_nil, List.mem_cons, List.not_mem_nil, List.mem_append, List.nil_append, List.cons_append, List.append_nil, List.take_succ_cons, List.take_zero, List.drop_succ_cons, List.drop_zero, List.set_cons_zero, List.set_cons_succ, List.map_cons, List.map_nil, implies_true, forall_const, ne_eq]))) ?_
      rintro _ σ2 ⟨rfl, h⟩
      subst σ2
      refine hgo_sound 60 ?_
      simp -implicitDefEqProofs (maxSteps := 1000000) only [simpS, ↓condJ_true, ↓condJ_false, ↓reduceIte, Nat.reduceEqDiff, Nat.reduceLT, Nat.reduceLeDiff, reduceCtorEq, Nat.reduceAdd, Nat.reduceSub, bindG_none, addG_none, hgrpK_none, nestK_none, hgrpK_guarded, Option.map_none, beq_self_eq_true, bne_self_eq_false, Option.map_some, if_true, if_false, List.getD_cons_zero, List.getD_cons_succ, List.length_cons, List.length_nil, List.mem_cons, List.not_mem_nil, List.mem_append, List.nil_append, List.cons_append, List.append_nil, List.take_succ_cons, List.take_zero, List.drop_succ_cons, List.drop_zero, List.set_cons_zero, List.set_cons_succ, List.map_cons, List.map_nil, implies_true, forall_const, ne_eq]
      exact fpost_pure (σ0 := σ) (.inr rfl) (by rw [hnx]; exact Nat.le_refl _) hwf ((((Ext.refl _).new _).new _).sub hwf) rfl trivial trivial ⟨rfl, rfl⟩
    have d1 : decide ((i : Int) < (l.length : Int)) = true := decide_eq_true (by omega)
    have hi2 : (i : Int) < (l.length : Int) := by omega
    have hgt := encAs_get l i hil
    generalize l[i] = t at *
    obtain ⟨tk, tn, ta, tx⟩ := t
    have hwi : IntKind.i64.wrap ((i : Int) + 1) = ((i + 1 : Nat) : Int) := by rw [IntWalk.i64_in _ (by omega)]; rfl
    by_cases h0 : tk = 0
    · have k0 : (tk == 0) = true := by simpa using h0
      have hgc' := good_take hgc (((peekC c 0).1 : Int) == tn)
      have hlc' := lok_take hlc (((peekC c 0).1 : Int) == tn)
      obtain ⟨lk, lg, lt, la, hnode⟩ := take_leaf c (((peekC c 0).1 : Int) == tn)
      rw [show takeC c (((peekC c 0).1 : Int) == tn) = anyC c tn from rfl] at hgc' hlc' hnode
      refine hgo_sound 120 ?_
      simp -implicitDefEqProofs (maxSteps := 1000000) only [simpS, ↓condJ_true, ↓condJ_false, ↓reduceIte, Nat.reduceEqDiff, Nat.reduceLT, Nat.reduceLeDiff, reduceCtorEq, Nat.reduceAdd, Nat.reduceSub, bindG_none, addG_none, hgrpK_none, nestK_none, hgrpK_guarded, Option.map_none, beq_self_eq_true, bne_self_eq_false, Option.map_some, if_true, if_false, List.getD_cons_zero, List.getD_cons_succ, List.length_cons, List.length_nil, List.mem_cons, List.not_mem_nil, List.mem_append, List.nil_append, List.cons_append, List.append_nil, List.take_succ_cons, List.take_zero, List.drop_succ_cons, List.drop_zero, List.set_cons_zero, List.set_cons_succ, List.map_cons, List.map_nil, implies_true, forall_const, ne_eq, d1, hi2, hgt, encAs_length, Int.toNat_natCast, Int.natCast_nonneg, plS, k0]
      refine hx_call (f := .fn 8) rfl (by rw [hP]; exact hcallD_func (cany_calls σ.next c hok tn _ (by simp -implicitDefEqProofs (maxSteps := 1000000) only [simpS, ↓condJ_true, ↓condJ_false, ↓reduceIte, Nat.reduceEqDiff, Nat.reduceLT, Nat.reduceLeDiff, reduceCtorEq, Nat.reduceAdd, Nat.reduceSub, bindG_none, addG_none, hgrpK_none, nestK_none, hgrpK_guarded, Option.map_none, beq_self_eq_true, bne_self_eq_false, Option.map_some, if_true, if_false, List.getD_cons_zero, List.getD_cons_succ, List.length_cons, List.length_nil, List.mem_cons, List.not_mem_nil, List.mem_append, List.nil_append, List.cons_append, List.append_nil, List.take_succ_cons, List.take_zero, List.drop_succ_cons, List.drop_zero, List.set_cons_zero, List.set_cons_succ, List.map_cons, List.map_nil, implies_true, forall_const, ne_eq]))) ?_
      rintro _ σ2 ⟨rfl, rfl⟩
      refine hgo_sound 60 ?_
      simp -implicitDefEqProofs (maxSteps := 1000000) only [simpS, ↓condJ_true, ↓condJ_false, ↓reduceIte, Nat.reduceEqDiff, Nat.reduceLT, Nat.reduceLeDiff, reduceCtorEq, Nat.reduceAdd, Nat.reduceSub, bindG_none, addG_none, hgrpK_none, nestK_none, hgrpK_guarded, Option.map_none, beq_self_eq_true, bne_self_eq_false, Option.map_some, if_true, if_false, List.getD_cons_zero, List.getD_cons_succ, List.length_cons, List.length_nil, List.mem_cons, List.not_mem_nil, List.mem_append, List.nil_append, List.cons_append, List.append_nil, List.take_succ_cons, List.take_zero, List.drop_succ_cons, List.drop_zero, List.set_cons_zero, List.set_cons_succ, List.map_cons, List.map_nil, implies_true, forall_const, ne_eq, encN_length]
      refine hx_call (f := .fn 9) rfl (by rw [hP]; exact hcallD_func (rany_calls c hok hlc tn _)) ?_
      rintro _ σ2 ⟨rfl, h⟩
      subst σ2
      revert hgc' hlc' hnode
      generalize anyC c tn = r
      obtain ⟨c', nd⟩ := r
      rintro hgc' hlc' rfl
      have hok' : c'.ok := hgc'.ok
      refine hgo_sound 60 ?_
      simp -implicitDefEqProofs (maxSteps := 1000000) only [simpS, ↓condJ_true, ↓condJ_false, ↓reduceIte, Nat.reduceEqDiff, Nat.reduceLT, Nat.reduceLeDiff, reduceCtorEq, Nat.reduceAdd, Nat.reduceSub, bindG_none, addG_none, hgrpK_none, nestK_none, hgrpK_guarded, Option.map_none, beq_self_eq_true, bne_self_eq_false, Option.map_some, if_true, if_false, List.getD_cons_zero, List.getD_cons_succ, List.length_cons, List.length_nil, List.mem_cons, List.not_mem_nil, List.mem_append, List.nil_append, List.cons_append, List.append_nil, List.take_succ_cons, List.take_zero, List.drop_succ_cons, List.drop_zero, List.set_cons_zero, List.set_cons_succ, List.map_cons, List.map_nil, implies_true, forall_const, ne_eq, encN_length]
      refine hx_drawgo 1 ?_
      simp -implicitDefEqProofs (maxSteps := 100000000) only [drawS, List.map_cons, List.map_nil, List.getElem?_cons_zero, List.getElem?_cons_succ, List.getElem?_nil, simpS, ↓condJ_true, ↓condJ_false, ↓reduceIte, Nat.reduceEqDiff, Nat.reduceLT, Nat.reduceLeDiff, reduceCtorEq, Nat.reduceAdd, Nat.reduceSub, bindG_none, addG_none, hgrpK_none, nestK_none, hgrpK_guarded, Option.map_none, beq_self_eq_true, bne_self_eq_false, Option.map_some, if_true, if_false, List.getD_cons_zero, List.getD_cons_succ, List.length_cons, List.length_nil, List.mem_cons, List.not_mem_nil, List.mem_append, List.nil_append, List.cons_append, List.append_nil, List.take_succ_cons, List.take_zero, List.drop_succ_cons, List.drop_zero, List.set_cons_zero, List.set_cons_succ, List.map_cons, List.map_nil, implies_true, forall_const, ne_eq, hnt', encN_length]
      refine hd_call (i := 3) (f := .fn 10) (by simp -implicitDefEqProofs (maxSteps := 100000000) only [drawS, List.map_cons, List.map_nil, List.getElem?_cons_zero, List.getElem?_cons_succ, List.getElem?_nil, simpS, ↓condJ_true, ↓condJ_false, ↓reduceIte, Nat.reduceEqDiff, Nat.reduceLT, Nat.reduceLeDiff, reduceCtorEq, Nat.reduceAdd, Nat.reduceSub, bindG_none, addG_none, hgrpK_none, nestK_none, hgrpK_guarded, Option.map_none, beq_self_eq_true, bne_self_eq_false, Option.map_some, if_true, if_false, List.getD_cons_zero, List.getD_cons_succ, List.length_cons, List.length_nil, List.mem_cons, List.not_mem_nil, List.mem_append, List.nil_append, List.cons_append, List.append_nil, List.take_succ_cons, List.take_zero, List.drop_succ_cons, List.drop_zero, List.set_cons_zero, List.set_cons_succ, List.map_cons, List.map_nil, implies_true, forall_const, ne_eq, hnt', encN_length]) (by rfl) (by rfl) rfl (by rfl) (by rw [hP]; exact hcallD_func (cis_calls0 lk lg lt la _)) ?_
      rintro _ σ2 ⟨rfl, h⟩
      subst σ2
      refine hdgo_sound 2 ?_
      simp -implicitDefEqProofs (maxSteps := 3000000) only [drawS, List.map_cons, List.map_nil, List.getElem?_cons_zero, List.getElem?_cons_succ, List.getElem?_nil, simpS, ↓condJ_true, ↓condJ_false, ↓reduceIte, Nat.reduceEqDiff, Nat.reduceLT, Nat.reduceLeDiff, reduceCtorEq, Nat.reduceAdd, Nat.reduceSub, bindG_none, addG_none, hgrpK_none, nestK_none, hgrpK_guarded, Option.map_none, beq_self_eq_true, bne_self_eq_false, Option.map_some, if_true, if_false, List.getD_cons_zero, List.getD_cons_succ, List.length_cons, List.length_nil, List.mem_cons, List.not_mem_nil, List.mem_append, List.nil_append, List.cons_append, List.append_nil, List.take_succ_cons, List.take_zero, List.drop_succ_cons, List.drop_zero, List.set_cons_zero, List.set_cons_succ, List.map_cons, List.map_nil, implies_true, forall_const, ne_eq, hnt', encN_length]
      refine hgo_sound 60 ?_
      simp -implicitDefEqProofs (maxSteps := 1000000) only [simpS, ↓condJ_true, ↓condJ_false, ↓reduceIte, Nat.reduceEqDiff, Nat.reduceLT, Nat.reduceLeDiff, reduceCtorEq, Nat.reduceAdd, Nat.reduceSub, bindG_none, addG_none, hgrpK_none, nestK_none, hgrpK_guarded, Option.map_none, beq_self_eq_true, bne_self_eq_false, Option.map_some, if_true, if_false, List.getD_cons_zero, List.getD_cons_succ, List.length_cons, List.length_nil, List.mem_cons, List.not_mem_nil, List.mem_append, List.nil_append, List.cons_append, List.append_nil, List.take_succ_cons, List.take_zero, List.drop_succ_cons, List.drop_zero, List.set_cons_zero, List.set_cons_succ, List.map_cons, List.map_nil, implies_true, forall_const, ne_eq]
      refine hx_call (f := .fn 19) rfl (by rw [hP]; exact hcallD_func (stands_calls8 σ.next c' hok' hlc' ⟨tk, tn, ta, tx⟩ _ (by simp -implicitDefEqProofs (maxSteps := 1000000) only [simpS, ↓condJ_true, ↓condJ_false, ↓reduceIte, Nat.reduceEqDiff, Nat.reduceLT, Nat.reduceLeDiff, reduceCtorEq, Nat.reduceAdd, Nat.reduceSub, bindG_none, addG_none, hgrpK_none, nestK_none, hgrpK_guarded, Option.map_none, beq_self_eq_true, bne_self_eq_false, Option.map_some, if_true, if_false, List.getD_cons_zero, List.getD_cons_succ, List.length_cons, List.length_nil, List.mem_cons, List.not_mem_nil, List.mem_append, List.nil_append, List.cons_append, List.append_nil, List.take_succ_cons, List.take_zero, List.drop_succ_cons, List.drop_zero, List.set_cons_zero, List.set_cons_succ, List.map_cons, List.map_nil, implies_true, forall_const, ne_eq]))) ?_
      rintro _ σ2 ⟨rfl, h⟩
      subst σ2
      refine hgo_sound 60 ?_
      simp -implicitDefEqProofs (maxSteps := 1000000) only [simpS, ↓condJ_true, ↓condJ_false, ↓reduceIte, Nat.reduceEqDiff, Nat.reduceLT, Nat.reduceLeDiff, reduceCtorEq, Nat.reduceAdd, Nat.reduceSub, bindG_none, addG_none, hgrpK_none, nestK_none, hgrpK_guarded, Option.map_none, beq_self_eq_true, bne_self_eq_false, Option.map_some, if_true, if_false, List.getD_cons_zero, List.getD_cons_succ, List.length_cons, List.length_nil, List.mem_cons, List.not_mem_nil, List.mem_append, List.nil_append, List.cons_append, List.append_nil, List.take_succ_cons, List.take_zero, List.drop_succ_cons, List.drop_zero, List.set_cons_zero, List.set_cons_succ, List.map_cons, List.map_nil, implies_true, forall_const, ne_eq, hwi]
      intro hw5 hl5 hn5
      refine ⟨⟨i + 1, c'⟩, ⟨by simp only; omega, hgc', hlc'⟩, by simp only; omega, ?_⟩
      exact Drop.allS (show Sub (plS σ c') _ from ((((((Ext.refl _).new _).new _).new _).new _)).sub (plS_wf hwf c')) (plS_wf hwf c') (by rw [hnx]; show σ.next ≤ σ.next + 2; omega) ⟨⟨rfl, show σ.next < σ.next + 2 by omega⟩, ⟨rfl, show σ.next + 1 < σ.next + 2 by omega⟩, ⟨rfl, encAs_slt _ _⟩, ⟨rfl, trivial⟩, ⟨rfl, trivial⟩, trivial⟩
    by_cases h1 : tk = 1
    · have k0 : (tk == 0) = false := by simpa using h0
      have k1 : (tk == 1) = true := by simpa using h1
      have hgc' := good_take hgc (isC c 0 tx)
      have hlc' := lok_take hlc (isC c 0 tx)
      obtain ⟨lk, lg, lt, la, hnode⟩ := take_leaf c (isC c 0 tx)
      rw [show takeC c (isC c 0 tx) = wantC c tx from rfl] at hgc' hlc' hnode
      refine hgo_sound 120 ?_
      simp -implicitDefEqProofs (maxSteps := 1000000) only [simpS, ↓condJ_true, ↓condJ_false, ↓reduceIte, Nat.reduceEqDiff, Nat.reduceLT, Nat.reduceLeDiff, reduceCtorEq, Nat.reduceAdd, Nat.reduceSub, bindG_none, addG_none, hgrpK_none, nestK_none, hgrpK_guarded, Option.map_none, beq_self_eq_true, bne_self_eq_false, Option.map_some, if_true, if_false, List.getD_cons_zero, List.getD_cons_succ, List.length_cons, List.length_nil, List.mem_cons, List.not_mem_nil, List.mem_append, List.nil_append, List.cons_append, List.append_nil, List.take_succ_cons, List.take_zero, List.drop_succ_cons, List.drop_zero, List.set_cons_zero, List.set_cons_succ, List.map_cons, List.map_nil, implies_true, forall_const, ne_eq, d1, hi2, hgt, encAs_length, Int.toNat_natCast, Int.natCast_nonneg, plS, k0, k1]
      refine hx_call (f := .fn 11) rfl (by rw [hP]; exact hcallD_func (cwant_calls σ.next c hok tx _ (by simp -implicitDefEqProofs (maxSteps := 1000000) only [simpS, ↓condJ_true, ↓condJ_false, ↓reduceIte, Nat.reduceEqDiff, Nat.reduceLT, Nat.reduceLeDiff, reduceCtorEq, Nat.reduceAdd, Nat.reduceSub, bindG_none, addG_none, hgrpK_none, nestK_none, hgrpK_guarded, Option.map_none, beq_self_eq_true, bne_self_eq_false, Option.map_some, if_true, if_false, List.getD_cons_zero, List.getD_cons_succ, List.length_cons, List.length_nil, List.mem_cons, List.not_mem_nil, List.mem_append, List.nil_append, List.cons_append, List.append_nil, List.take_succ_cons, List.take_zero, List.drop_succ_cons, List.drop_zero, List.set_cons_zero, List.set_cons_succ, List.map_cons, List.map_nil, implies_true, forall_const, ne_eq]))) ?_
      rintro _ σ2 ⟨rfl, rfl⟩
      refine hgo_sound 60 ?_
      simp -implicitDefEqProofs (maxSteps := 1000000) only [simpS, ↓condJ_true, ↓condJ_false, ↓reduceIte, Nat.reduceEqDiff, Nat.reduceLT, Nat.reduceLeDiff, reduceCtorEq, Nat.reduceAdd, Nat.reduceSub, bindG_none, addG_none, hgrpK_none, nestK_none, hgrpK_guarded, Option.map_none, beq_self_eq_true, bne_self_eq_false, Option.map_some, if_true, if_false, List.getD_cons_zero, List.getD_cons_succ, List.length_cons, List.length_nil, List.mem_cons, List.not_mem_nil, List.mem_append, List.nil_append, List.cons_append, List.append_nil, List.take_succ_cons, List.take_zero, List.drop_succ_cons, List.drop_zero, List.set_cons_zero, List.set_cons_succ, List.map_cons, List.map_nil, implies_true, forall_const, ne_eq, encN_length]
      refine hx_call (f := .fn 12) rfl (by rw [hP]; exact hcallD_func (rwant_calls c hok hlc tx _)) ?_
      rintro _ σ2 ⟨rfl, h⟩
      subst σ2
      revert hgc' hlc' hnode
      generalize wantC c tx = r
      obtain ⟨c', nd⟩ := r
      rintro hgc' hlc' rfl
      have hok' : c'.ok := hgc'.ok
      refine hgo_sound 60 ?_
      simp -implicitDefEqProofs (maxSteps := 1000000) only [simpS, ↓condJ_true, ↓condJ_false, ↓reduceIte, Nat.reduceEqDiff, Nat.reduceLT, Nat.reduceLeDiff, reduceCtorEq, Nat.reduceAdd, Nat.reduceSub, bindG_none, addG_none, hgrpK_none, nestK_none, hgrpK_guarded, Option.map_none, beq_self_eq_true, bne_self_eq_false, Option.map_some, if_true, if_false, List.getD_cons_zero, List.getD_cons_succ, List.length_cons, List.length_nil, List.mem_cons, List.not_mem_nil, List.mem_append, List.nil_append, List.cons_append, List.append_nil, List.take_succ_cons, List.take_zero, List.drop_succ_cons, List.drop_zero, List.set_cons_zero, List.set_cons_succ, List.map_cons, List.map_nil, implies_true, forall_const, ne_eq, encN_length]
      refine hx_drawgo 1 ?_
      simp -implicitDefEqProofs (maxSteps := 100000000) only [drawS, List.map_cons, List.map_nil, List.getElem?_cons_zero, List.getElem?_cons_succ, List.getElem?_nil, simpS, ↓condJ_true, ↓condJ_false, ↓reduceIte, Nat.reduceEqDiff, Nat.reduceLT, Nat.reduceLeDiff, reduceCtorEq, Nat.reduceAdd, Nat.reduceSub, bindG_none, addG_none, hgrpK_none, nestK_none, hgrpK_guarded, Option.map_none, beq_self_eq_true, bne_self_eq_false, Option.map_some, if_true, if_false, List.getD_cons_zero, List.getD_cons_succ, List.length_cons, List.length_nil, List.mem_cons, List.not_mem_nil, List.mem_append, List.nil_append, List.cons_append, List.append_nil, List.take_succ_cons, List.take_zero, List.drop_succ_cons, List.drop_zero, List.set_cons_zero, List.set_cons_succ, List.map_cons, List.map_nil, implies_true, forall_const, ne_eq, hnt', encN_length]
      refine hd_call (i := 3) (f := .fn 10) (by simp -implicitDefEqProofs (maxSteps := 100000000) only [drawS, List.map_cons, List.map_nil, List.getElem?_cons_zero, List.getElem?_cons_succ, List.getElem?_nil, simpS, ↓condJ_true, ↓condJ_false, ↓reduceIte, Nat.reduceEqDiff, Nat.reduceLT, Nat.reduceLeDiff, reduceCtorEq, Nat.reduceAdd, Nat.reduceSub, bindG_none, addG_none, hgrpK_none, nestK_none, hgrpK_guarded, Option.map_none, beq_self_eq_true, bne_self_eq_false, Option.map_some, if_true, if_false, List.getD_cons_zero, List.getD_cons_succ, List.length_cons, List.length_nil, List.mem_cons, List.not_mem_nil, List.mem_append, List.nil_append, List.cons_append, List.append_nil, List.take_succ_cons, List.take_zero, List.drop_succ_cons, List.drop_zero, List.set_cons_zero, List.set_cons_succ, List.map_cons, List.map_nil, implies_true, forall_const, ne_eq, hnt', encN_length]) (by rfl) (by rfl) rfl (by rfl) (by rw [hP]; exact hcallD_func (cis_calls0 lk lg lt la _)) ?_
      rintro _ σ2 ⟨rfl, h⟩
      subst σ2
      refine hdgo_sound 2 ?_
      simp -implicitDefEqProofs (maxSteps := 3000000) only [drawS, List.map_cons, List.map_nil, List.getElem?_cons_zero, List.getElem?_cons_succ, List.getElem?_nil, simpS, ↓condJ_true, ↓condJ_false, ↓reduceIte, Nat.reduceEqDiff, Nat.reduceLT, Nat.reduceLeDiff, reduceCtorEq, Nat.reduceAdd, Nat.reduceSub, bindG_none, addG_none, hgrpK_none, nestK_none, hgrpK_guarded, Option.map_none, beq_self_eq_true, bne_self_eq_false, Option.map_some, if_true, if_false, List.getD_cons_zero, List.getD_cons_succ, List.length_cons, List.length_nil, List.mem_cons, List.not_mem_nil, List.mem_append, List.nil_append, List.cons_append, List.append_nil, List.take_succ_cons, List.take_zero, List.drop_succ_cons, List.drop_zero, List.set_cons_zero, List.set_cons_succ, List.map_cons, List.map_nil, implies_true, forall_const, ne_eq, hnt', encN_length]
      refine hgo_sound 60 ?_
      simp -implicitDefEqProofs (maxSteps := 1000000) only [simpS, ↓condJ_true, ↓condJ_false, ↓reduceIte, Nat.reduceEqDiff, Nat.reduceLT, Nat.reduceLeDiff, reduceCtorEq, Nat.reduceAdd, Nat.reduceSub, bindG_none, addG_none, hgrpK_none, nestK_none, hgrpK_guarded, Option.map_none, beq_self_eq_true, bne_self_eq_false, Option.map_some, if_true, if_false, List.getD_cons_zero, List.getD_cons_succ, List.length_cons, List.length_nil, List.mem_cons, List.not_mem_nil, List.mem_append, List.nil_append, List.cons_append, List.append_nil, List.take_succ_cons, List.take_zero, List.drop_succ_cons, List.drop_zero, List.set_cons_zero, List.set_cons_succ, List.map_cons, List.map_nil, implies_true, forall_const, ne_eq]
      refine hx_call (f := .fn 19) rfl (by rw [hP]; exact hcallD_func (stands_calls8 σ.next c' hok' hlc' ⟨tk, tn, ta, tx⟩ _ (by simp -implicitDefEqProofs (maxSteps := 1000000) only [simpS, ↓condJ_true, ↓condJ_false, ↓reduceIte, Nat.reduceEqDiff, Nat.reduceLT, Nat.reduceLeDiff, reduceCtorEq, Nat.reduceAdd, Nat.reduceSub, bindG_none, addG_none, hgrpK_none, nestK_none, hgrpK_guarded, Option.map_none, beq_self_eq_true, bne_self_eq_false, Option.map_some, if_true, if_false, List.getD_cons_zero, List.getD_cons_succ, List.length_cons, List.length_nil, List.mem_cons, List.not_mem_nil, List.mem_append, List.nil_append, List.cons_append, List.append_nil, List.take_succ_cons, List.take_zero, List.drop_succ_cons, List.drop_zero, List.set_cons_zero, List.set_cons_succ, List.map_cons, List.map_nil, implies_true, forall_const, ne_eq]))) ?_
      rintro _ σ2 ⟨rfl, h⟩
      subst σ2
      refine hgo_sound 60 ?_
      simp -implicitDefEqProofs (maxSteps := 1000000) only [simpS, ↓condJ_true, ↓condJ_false, ↓reduceIte, Nat.reduceEqDiff, Nat.reduceLT, Nat.reduceLeDiff, reduceCtorEq, Nat.reduceAdd, Nat.reduceSub, bindG_none, addG_none, hgrpK_none, nestK_none, hgrpK_guarded, Option.map_none, beq_self_eq_true, bne_self_eq_false, Option.map_some, if_true, if_false, List.getD_cons_zero, List.getD_cons_succ, List.length_cons, List.length_nil, List.mem_cons, List.not_mem_nil, List.mem_append, List.nil_append, List.cons_append, List.append_nil, List.take_succ_cons, List.take_zero, List.drop_succ_cons, List.drop_zero, List.set_cons_zero, List.set_cons_succ, List.map_cons, List.map_nil, implies_true, forall_const, ne_eq, hwi]
      intro hw5 hl5 hn5
      refine ⟨⟨i + 1, c'⟩, ⟨by simp only; omega, hgc', hlc'⟩, by simp only; omega, ?_⟩
      exact Drop.allS (show Sub (plS σ c') _ from ((((((Ext.refl _).new _).new _).new _).new _)).sub (plS_wf hwf c')) (plS_wf hwf c') (by rw [hnx]; show σ.next ≤ σ.next + 2; omega) ⟨⟨rfl, show σ.next < σ.next + 2 by omega⟩, ⟨rfl, show σ.next + 1 < σ.next + 2 by omega⟩, ⟨rfl, encAs_slt _ _⟩, ⟨rfl, trivial⟩, ⟨rfl, trivial⟩, trivial⟩
    by_cases h2 : tk = 2
    · have k0 : (tk == 0) = false := by simpa using h0
      have k1 : (tk == 1) = false := by simpa using h1
      have k2 : (tk == 2) = true := by simpa using h2
      have hgc' := good_down hgc
      have hlc' := lok_down hlc
      refine hgo_sound 120 ?_
      simp -implicitDefEqProofs (maxSteps := 1000000) only [simpS, ↓condJ_true, ↓condJ_false, ↓reduceIte, Nat.reduceEqDiff, Nat.reduceLT, Nat.reduceLeDiff, reduceCtorEq, Nat.reduceAdd, Nat.reduceSub, bindG_none, addG_none, hgrpK_none, nestK_none, hgrpK_guarded, Option.map_none, beq_self_eq_true, bne_self_eq_false, Option.map_some, if_true, if_false, List.getD_cons_zero, List.getD_cons_succ, List.length_cons, List.length_nil, List.mem_cons, List.not_mem_nil, List.mem_append, List.nil_append, List.cons_append, List.append_nil, List.take_succ_cons, List.take_zero, List.drop_succ_cons, List.drop_zero, List.set_cons_zero, List.set_cons_succ, List.map_cons, List.map_nil, implies_true, forall_const, ne_eq, d1, hi2, hgt, encAs_length, Int.toNat_natCast, Int.natCast_nonneg, plS, k0, k1, k2]
      refine hx_call (f := .fn 13) rfl (by rw [hP]; exact hcallD_func (cdown_calls σ.next c hok _ (by simp -implicitDefEqProofs (maxSteps := 1000000) only [simpS, ↓condJ_true, ↓condJ_false, ↓reduceIte, Nat.reduceEqDiff, Nat.reduceLT, Nat.reduceLeDiff, reduceCtorEq, Nat.reduceAdd, Nat.reduceSub, bindG_none, addG_none, hgrpK_none, nestK_none, hgrpK_guarded, Option.map_none, beq_self_eq_true, bne_self_eq_false, Option.map_some, if_true, if_false, List.getD_cons_zero, List.getD_cons_succ, List.length_cons, List.length_nil, List.mem_cons, List.not_mem_nil, List.mem_append, List.nil_append, List.cons_append, List.append_nil, List.take_succ_cons, List.take_zero, List.drop_succ_cons, List.drop_zero, List.set_cons_zero, List.set_cons_succ, List.map_cons, List.map_nil, implies_true, forall_const, ne_eq]))) ?_
      rintro _ σ2 ⟨rfl, rfl⟩
      refine hgo_sound 60 ?_
      simp -implicitDefEqProofs (maxSteps := 1000000) only [simpS, ↓condJ_true, ↓condJ_false, ↓reduceIte, Nat.reduceEqDiff, Nat.reduceLT, Nat.reduceLeDiff, reduceCtorEq, Nat.reduceAdd, Nat.reduceSub, bindG_none, addG_none, hgrpK_none, nestK_none, hgrpK_guarded, Option.map_none, beq_self_eq_true, bne_self_eq_false, Option.map_some, if_true, if_false, List.getD_cons_zero, List.getD_cons_succ, List.length_cons, List.length_nil, List.mem_cons, List.not_mem_nil, List.mem_append, List.nil_append, List.cons_append, List.append_nil, List.take_succ_cons, List.take_zero, List.drop_succ_cons, List.drop_zero, List.set_cons_zero, List.set_cons_succ, List.map_cons, List.map_nil, implies_true, forall_const, ne_eq]
      refine hx_call (f := .fn 14) rfl (by rw [hP]; exact hcallD_func (rdown_calls c hok hgc.deep _)) ?_
      rintro _ σ2 ⟨rfl, h⟩
      subst σ2
      revert hgc' hlc'
      generalize downC c = r
      obtain ⟨c', bb⟩ := r
      intro hgc' hlc'
      have hok' : c'.ok := hgc'.ok
      refine hgo_sound 60 ?_
      simp -implicitDefEqProofs (maxSteps := 1000000) only [simpS, ↓condJ_true, ↓condJ_false, ↓reduceIte, Nat.reduceEqDiff, Nat.reduceLT, Nat.reduceLeDiff, reduceCtorEq, Nat.reduceAdd, Nat.reduceSub, bindG_none, addG_none, hgrpK_none, nestK_none, hgrpK_guarded, Option.map_none, beq_self_eq_true, bne_self_eq_false, Option.map_some, if_true, if_false, List.getD_cons_zero, List.getD_cons_succ, List.length_cons, List.length_nil, List.mem_cons, List.not_mem_nil, List.mem_append, List.nil_append, List.cons_append, List.append_nil, List.take_succ_cons, List.take_zero, List.drop_succ_cons, List.drop_zero, List.set_cons_zero, List.set_cons_succ, List.map_cons, List.map_nil, implies_true, forall_const, ne_eq]
      refine hx_call (f := .fn 19) rfl (by rw [hP]; exact hcallD_func (stands_calls8 σ.next c' hok' hlc' ⟨tk, tn, ta, tx⟩ _ (by simp -implicitDefEqProofs (maxSteps := 1000000) only [simpS, ↓condJ_true, ↓condJ_false, ↓reduceIte, Nat.reduceEqDiff, Nat.reduceLT, Nat.reduceLeDiff, reduceCtorEq, Nat.reduceAdd, Nat.reduceSub, bindG_none, addG_none, hgrpK_none, nestK_none, hgrpK_guarded, Option.map_none, beq_self_eq_true, bne_self_eq_false, Option.map_some, if_true, if_false, List.getD_cons_zero, List.getD_cons_succ, List.length_cons, List.length_nil, List.mem_cons, List.not_mem_nil, List.mem_append, List.nil_append, List.cons_append, List.append_nil, List.take_succ_cons, List.take_zero, List.drop_succ_cons, List.drop_zero, List.set_cons_zero, List.set_cons_succ, List.map_cons, List.map_nil, implies_true, forall_const, ne_eq]))) ?_
      rintro _ σ2 ⟨rfl, h⟩
      subst σ2
      refine hgo_sound 60 ?_
      simp -implicitDefEqProofs (maxSteps := 1000000) only [simpS, ↓condJ_true, ↓condJ_false, ↓reduceIte, Nat.reduceEqDiff, Nat.reduceLT, Nat.reduceLeDiff, reduceCtorEq, Nat.reduceAdd, Nat.reduceSub, bindG_none, addG_none, hgrpK_none, nestK_none, hgrpK_guarded, Option.map_none, beq_self_eq_true, bne_self_eq_false, Option.map_some, if_true, if_false, List.getD_cons_zero, List.getD_cons_succ, List.length_cons, List.length_nil, List.mem_cons, List.not_mem_nil, List.mem_append, List.nil_append, List.cons_append, List.append_nil, List.take_succ_cons, List.take_zero, List.drop_succ_cons, List.drop_zero, List.set_cons_zero, List.set_cons_succ, List.map_cons, List.map_nil, implies_true, forall_const, ne_eq, hwi]
      intro hw5 hl5 hn5
      refine ⟨⟨i + 1, c'⟩, ⟨by simp only; omega, hgc', hlc'⟩, by simp only; omega, ?_⟩
      exact Drop.allS (show Sub (plS σ c') _ from ((((Ext.refl _).new _).new _)).sub (plS_wf hwf c')) (plS_wf hwf c') (by rw [hnx]; show σ.next ≤ σ.next + 2; omega) ⟨⟨rfl, show σ.next < σ.next + 2 by omega⟩, ⟨rfl, show σ.next + 1 < σ.next + 2 by omega⟩, ⟨rfl, encAs_slt _ _⟩, ⟨rfl, trivial⟩, ⟨rfl, trivial⟩, trivial⟩
    by_cases h3 : tk = 3
    · have k0 : (tk == 0) = false := by simpa using h0
      have k1 : (tk == 1) = false := by simpa using h1
      have k2 : (tk == 2) = false := by simpa using h2
      have k3 : (tk == 3) = true := by simpa using h3
      have hgc' := good_up hgc
      have hlc' := lok_up hlc
      refine hgo_sound 120 ?_
      simp -implicitDefEqProofs (maxSteps := 1000000) only [simpS, ↓condJ_true, ↓condJ_false, ↓reduceIte, Nat.reduceEqDiff, Nat.reduceLT, Nat.reduceLeDiff, reduceCtorEq, Nat.reduceAdd, Nat.reduceSub, bindG_none, addG_none, hgrpK_none, nestK_none, hgrpK_guarded, Option.map_none, beq_self_eq_true, bne_self_eq_false, Option.map_some, if_true, if_false, List.getD_cons_zero, List.getD_cons_succ, List.length_cons, List.length_nil, List.mem_cons, List.not_mem_nil, List.mem_append, List.nil_append, List.cons_append, List.append_nil, List.take_succ_cons, List.take_zero, List.drop_succ_cons, List.drop_zero, List.set_cons_zero, List.set_cons_succ, List.map_cons, List.map_nil, implies_true, forall_const, ne_eq, d1, hi2, hgt, encAs_length, Int.toNat_natCast, Int.natCast_nonneg, plS, k0, k1, k2, k3]
      refine hx_call (f := .fn 15) rfl (by rw [hP]; exact hcallD_func (cup_calls σ.next c (by have := hgc.deep; omega) _ (by simp -implicitDefEqProofs (maxSteps := 1000000) only [simpS, ↓condJ_true, ↓condJ_false, ↓reduceIte, Nat.reduceEqDiff, Nat.reduceLT, Nat.reduceLeDiff, reduceCtorEq, Nat.reduceAdd, Nat.reduceSub, bindG_none, addG_none, hgrpK_none, nestK_none, hgrpK_guarded, Option.map_none, beq_self_eq_true, bne_self_eq_false, Option.map_some, if_true, if_false, List.getD_cons_zero, List.getD_cons_succ, List.length_cons, List.length_nil, List.mem_cons, List.not_mem_nil, List.mem_append, List.nil_append, List.cons_append, List.append_nil, List.take_succ_cons, List.take_zero, List.drop_succ_cons, List.drop_zero, List.set_cons_zero, List.set_cons_succ, List.map_cons, List.map_nil, implies_true, forall_const, ne_eq]))) ?_
      rintro _ σ2 ⟨rfl, rfl⟩
      refine hgo_sound 60 ?_
      simp -implicitDefEqProofs (maxSteps := 1000000) only [simpS, ↓condJ_true, ↓condJ_false, ↓reduceIte, Nat.reduceEqDiff, Nat.reduceLT, Nat.reduceLeDiff, reduceCtorEq, Nat.reduceAdd, Nat.reduceSub, bindG_none, addG_none, hgrpK_none, nestK_none, hgrpK_guarded, Option.map_none, beq_self_eq_true, bne_self_eq_false, Option.map_some, if_true, if_false, List.getD_cons_zero, List.getD_cons_succ, List.length_cons, List.length_nil, List.mem_cons, List.not_mem_nil, List.mem_append, List.nil_append, List.cons_append, List.append_nil, List.take_succ_cons, List.take_zero, List.drop_succ_cons, List.drop_zero, List.set_cons_zero, List.set_cons_succ, List.map_cons, List.map_nil, implies_true, forall_const, ne_eq]
      refine hx_call (f := .fn 16) rfl (by rw [hP]; exact hcallD_func (rup_calls c hgc.deep _)) ?_
      rintro _ σ2 ⟨rfl, h⟩
      subst σ2
      revert hgc' hlc'
      generalize upC c = c'
      intro hgc' hlc'
      have hok' : c'.ok := hgc'.ok
      refine hgo_sound 60 ?_
      simp -implicitDefEqProofs (maxSteps := 1000000) only [simpS, ↓condJ_true, ↓condJ_false, ↓reduceIte, Nat.reduceEqDiff, Nat.reduceLT, Nat.reduceLeDiff, reduceCtorEq, Nat.reduceAdd, Nat.reduceSub, bindG_none, addG_none, hgrpK_none, nestK_none, hgrpK_guarded, Option.map_none, beq_self_eq_true, bne_self_eq_false, Option.map_some, if_true, if_false, List.getD_cons_zero, List.getD_cons_succ, List.length_cons, List.length_nil, List.mem_cons, List.not_mem_nil, List.mem_append, List.nil_append, List.cons_append, List.append_nil, List.take_succ_cons, List.take_zero, List.drop_succ_cons, List.drop_zero, List.set_cons_zero, List.set_cons_succ, List.map_cons, List.map_nil, implies_true, forall_const, ne_eq]
      refine hx_call (f := .fn 19) rfl (by rw [hP]; exact hcallD_func (stands_calls8 σ.next c' hok' hlc' ⟨tk, tn, ta, tx⟩ _ (by simp -implicitDefEqProofs (maxSteps := 1000000) only [simpS, ↓condJ_true, ↓condJ_false, ↓reduceIte, Nat.reduceEqDiff, Nat.reduceLT, Nat.reduceLeDiff, reduceCtorEq, Nat.reduceAdd, Nat.reduceSub, bindG_none, addG_none, hgrpK_none, nestK_none, hgrpK_guarded, Option.map_none, beq_self_eq_true, bne_self_eq_false, Option.map_some, if_true, if_false, List.getD_cons_zero, List.getD_cons_succ, List.length_cons, List.length_nil, List.mem_cons, List.not_mem_nil, List.mem_append, List.nil_append, List.cons_append, List.append_nil, List.take_succ_cons, List.take_zero, List.drop_succ_cons, List.drop_zero, List.set_cons_zero, List.set_cons_succ, List.map_cons, List.map_nil, implies_true, forall_const, ne_eq]))) ?_
      rintro _ σ2 ⟨rfl, h⟩
      subst σ2
      refine hgo_sound 60 ?_
      simp -implicitDefEqProofs (maxSteps := 1000000) only [simpS, ↓condJ_true, ↓condJ_false, ↓reduceIte, Nat.reduceEqDiff, Nat.reduceLT, Nat.reduceLeDiff, reduceCtorEq, Nat.reduceAdd, Nat.reduceSub, bindG_none, addG_none, hgrpK_none, nestK_none, hgrpK_guarded, Option.map_none, beq_self_eq_true, bne_self_eq_false, Option.map_some, if_true, if_false, List.getD_cons_zero, List.getD_cons_succ, List.length_cons, List.length_nil, List.mem_cons, List.not_mem_nil, List.mem_append, List.nil_append, List.cons_append, List.append_nil, List.take_succ_cons, List.take_zero, List.drop_succ_cons, List.drop_zero, List.set_cons_zero, List.set_cons_succ, List.map_cons, List.map_nil, implies_true, forall_const, ne_eq, hwi]
      intro hw5 hl5 hn5
      refine ⟨⟨i + 1, c'⟩, ⟨by simp only; omega, hgc', hlc'⟩, by simp only; omega, ?_⟩
      exact Drop.allS (show Sub (plS σ c') _ from (((Ext.refl _).new _)).sub (plS_wf hwf c')) (plS_wf hwf c') (by rw [hnx]; show σ.next ≤ σ.next + 2; omega) ⟨⟨rfl, show σ.next < σ.next + 2 by omega⟩, ⟨rfl, show σ.next + 1 < σ.next + 2 by omega⟩, ⟨rfl, encAs_slt _ _⟩, ⟨rfl, trivial⟩, ⟨rfl, trivial⟩, trivial⟩
    · have k0 : (tk == 0) = false := by simpa using h0
      have k1 : (tk == 1) = false := by simpa using h1
      have k2 : (tk == 2) = false := by simpa using h2
      have k3 : (tk == 3) = false := by simpa using h3
      have hgc' := good_fail hgc tn
      have hlc' := lok_fail hlc tn
      refine hgo_sound 120 ?_
      simp -implicitDefEqProofs (maxSteps := 1000000) only [simpS, ↓condJ_true, ↓condJ_false, ↓reduceIte, Nat.reduceEqDiff, Nat.reduceLT, Nat.reduceLeDiff, reduceCtorEq, Nat.reduceAdd, Nat.reduceSub, bindG_none, addG_none, hgrpK_none, nestK_none, hgrpK_guarded, Option.map_none, beq_self_eq_true, bne_self_eq_false, Option.map_some, if_true, if_false, List.getD_cons_zero, List.getD_cons_succ, List.length_cons, List.length_nil, List.mem_cons, List.not_mem_nil, List.mem_append, List.nil_append, List.cons_append, List.append_nil, List.take_succ_cons, List.take_zero, List.drop_succ_cons, List.drop_zero, List.set_cons_zero, List.set_cons_succ, List.map_cons, List.map_nil, implies_true, forall_const, ne_eq, d1, hi2, hgt, encAs_length, Int.toNat_natCast, Int.natCast_nonneg, plS, k0, k1, k2, k3]
      refine hx_call (f := .fn 17) rfl (by rw [hP]; exact hcallD_func (fail_calls σ.next c hok tn _ (by simp -implicitDefEqProofs (maxSteps := 1000000) only [simpS, ↓condJ_true, ↓condJ_false, ↓reduceIte, Nat.reduceEqDiff, Nat.reduceLT, Nat.reduceLeDiff, reduceCtorEq, Nat.reduceAdd, Nat.reduceSub, bindG_none, addG_none, hgrpK_none, nestK_none, hgrpK_guarded, Option.map_none, beq_self_eq_true, bne_self_eq_false, Option.map_some, if_true, if_false, List.getD_cons_zero, List.getD_cons_succ, List.length_cons, List.length_nil, List.mem_cons, List.not_mem_nil, List.mem_append, List.nil_append, List.cons_append, List.append_nil, List.take_succ_cons, List.take_zero, List.drop_succ_cons, List.drop_zero, List.set_cons_zero, List.set_cons_succ, List.map_cons, List.map_nil, implies_true, forall_const, ne_eq]))) ?_
      rintro _ σ2 ⟨rfl, rfl⟩
      refine hgo_sound 60 ?_
      simp -implicitDefEqProofs (maxSteps := 1000000) only [simpS, ↓condJ_true, ↓condJ_false, ↓reduceIte, Nat.reduceEqDiff, Nat.reduceLT, Nat.reduceLeDiff, reduceCtorEq, Nat.reduceAdd, Nat.reduceSub, bindG_none, addG_none, hgrpK_none, nestK_none, hgrpK_guarded, Option.map_none, beq_self_eq_true, bne_self_eq_false, Option.map_some, if_true, if_false, List.getD_cons_zero, List.getD_cons_succ, List.length_cons, List.length_nil, List.mem_cons, List.not_mem_nil, List.mem_append, List.nil_append, List.cons_append, List.append_nil, List.take_succ_cons, List.take_zero, List.drop_succ_cons, List.drop_zero, List.set_cons_zero, List.set_cons_succ, List.map_cons, List.map_nil, implies_true, forall_const, ne_eq]
      refine hx_call (f := .fn 18) rfl (by rw [hP]; exact hcallD_func (rfail_calls c hok tn _)) ?_
      rintro _ σ2 ⟨rfl, h⟩
      subst σ2
      revert hgc' hlc'
      generalize failC c tn = c'
      intro hgc' hlc'
      have hok' : c'.ok := hgc'.ok
      refine hgo_sound 60 ?_
      simp -implicitDefEqProofs (maxSteps := 1000000) only [simpS, ↓condJ_true, ↓condJ_false, ↓reduceIte, Nat.reduceEqDiff, Nat.reduceLT, Nat.reduceLeDiff, reduceCtorEq, Nat.reduceAdd, Nat.reduceSub, bindG_none, addG_none, hgrpK_none, nestK_none, hgrpK_guarded, Option.map_none, beq_self_eq_true, bne_self_eq_false, Option.map_some, if_true, if_false, List.getD_cons_zero, List.getD_cons_succ, List.length_cons, List.length_nil, List.mem_cons, List.not_mem_nil, List.mem_append, List.nil_append, List.cons_append, List.append_nil, List.take_succ_cons, List.take_zero, List.drop_succ_cons, List.drop_zero, List.set_cons_zero, List.set_cons_succ, List.map_cons, List.map_nil, implies_true, forall_const, ne_eq]
      refine hx_call (f := .fn 19) rfl (by rw [hP]; exact hcallD_func (stands_calls8 σ.next c' hok' hlc' ⟨tk, tn, ta, tx⟩ _ (by simp -implicitDefEqProofs (maxSteps := 1000000) only [simpS, ↓condJ_true, ↓condJ_false, ↓reduceIte, Nat.reduceEqDiff, Nat.reduceLT, Nat.reduceLeDiff, reduceCtorEq, Nat.reduceAdd, Nat.reduceSub, bindG_none, addG_none, hgrpK_none, nestK_none, hgrpK_guarded, Option.map_none, beq_self_eq_true, bne_self_eq_false, Option.map_some, if_true, if_false, List.getD_cons_zero, List.getD_cons_succ, List.length_cons, List.length_nil, List.mem_cons, List.not_mem_nil, List.mem_append, List.nil_append, List.cons_append, List.append_nil, List.take_succ_cons, List.take_zero, List.drop_succ_cons, List.drop_zero, List.set_cons_zero, List.set_cons_succ, List.map_cons, List.map_nil, implies_true, forall_const, ne_eq]))) ?_
      rintro _ σ2 ⟨rfl, h⟩
      subst σ2
      refine hgo_sound 60 ?_
      simp -implicitDefEqProofs (maxSteps := 1000000) only [simpS, ↓condJ_true, ↓condJ_false, ↓reduceIte, Nat.reduceEqDiff, Nat.reduceLT, Nat.reduceLeDiff, reduceCtorEq, Nat.reduceAdd, Nat.reduceSub, bindG_none, addG_none, hgrpK_none, nestK_none, hgrpK_guarded, Option.map_none, beq_self_eq_true, bne_self_eq_false, Option.map_some, if_true, if_false, List.getD_cons_zero, List.getD_cons_succ, List.length_cons, List.length_nil, List.mem_cons, List.not_mem_nil, List.mem_append, List.nil_append, List.cons_append, List.append_nil, List.take_succ_cons, List.take_zero, List.drop_succ_cons, List.drop_zero, List.set_cons_zero, List.set_cons_succ, List.map_cons, List.map_nil, implies_true, forall_const, ne_eq, hwi]
      intro hw5 hl5 hn5
      refine ⟨⟨i + 1, c'⟩, ⟨by simp only; omega, hgc', hlc'⟩, by simp only; omega, ?_⟩
      exact Drop.allS (show Sub (plS σ c') _ from (((Ext.refl _).new _)).sub (plS_wf hwf c')) (plS_wf hwf c') (by rw [hnx]; show σ.next ≤ σ.next + 2; omega) ⟨⟨rfl, show σ.next < σ.next + 2 by omega⟩, ⟨rfl, show σ.next + 1 < σ.next + 2 by omega⟩, ⟨rfl, encAs_slt _ _⟩, ⟨rfl, trivial⟩, ⟨rfl, trivial⟩, trivial⟩

end Go.Hl
set_option linter.unusedSectionVars false
set_option linter.unusedVariables false
namespace Go.Hl
open Go Go.RowKit

section
variable {H : Type} {enc : TypeId × Value → H} {P : Program} {W : World} {sp : Nat → Bool} {held : Bool}

theorem weightsAll_mem {e : TypeId} {d : DataW H} : ∀ {ds : List (DataW H)}, d ∈ ds → ∀ n ∈ d.weights P e, n ∈ DataW.weightsAll P e ds
  | x :: ds, h, n, hn => by
    simp only [DataW.weightsAll, List.mem_append]
    rcases List.mem_cons.1 h with rfl | h
    · exact .inl hn
    · exact .inr (weightsAll_mem h n hn)

theorem trod_string_w {t : TypeId} (hu : P.underlying t = some .string) {fuel : Nat} {v : Value} {d : DataW H} {ps : List MemPlace} (h : DataW.trod enc P W 0 sp held fuel t [v] = some (d, ps)) :
    ∃ s, v = .string s ∧ s.size ∈ d.weights P t := by
  cases fuel with
  | zero => simp [DataW.trod] at h
  | succ fuel =>
    unfold DataW.trod at h
    rw [hu] at h
    cases v <;> simp at h
    rename_i s
    obtain ⟨_, rfl, _⟩ := h
    exact ⟨_, rfl, by simp [DataW.weights]⟩

theorem trod_slice_w {t e : TypeId} (hu : P.underlying t = some (.slice e)) {fuel : Nat} {v : Value} {d : DataW H} {ps : List MemPlace} (h : DataW.trod enc P W 0 (fun _ => true) held (fuel + 1) t [v] = some (d, ps)) :
    v = .slice none 0 0 ∨ ∃ a len cap, v = .slice (some a) len cap ∧ len ≤ cap ∧ cap ≤ maxLen ∧ cap * P.bytesOf e ∈ d.weights P t ∧
      ∀ i, i < cap → ∃ cs d' ps, W.cells? 0 (a.add (i * P.cellsOf e)) (P.cellsOf e) = some cs ∧ DataW.trod enc P W 0 (fun _ => true) held fuel e cs = some (d', ps) ∧ ∀ n ∈ d'.weights P e, n ∈ d.weights P t := by
  unfold DataW.trod at h
  rw [hu] at h
  cases v
  case slice A len cap =>
    cases A with
    | none =>
      cases len with
      | zero =>
        cases cap with
        | zero => exact .inl rfl
        | succ c => simp at h
      | succ n => simp at h
    | some a =>
      refine .inr ⟨a, len, cap, rfl, ?_⟩
      simp only at h
      split at h; rotate_left; · cases h
      rename_i hc
      obtain ⟨elems, he, h⟩ := Option.bind_eq_some_iff.1 h
      obtain ⟨rest, hr, hd⟩ := Option.map_eq_some_iff.1 h
      rw [if_pos trivial] at hr
      obtain ⟨l2, h2⟩ := opt_mapM he
      obtain ⟨l3, h3⟩ := opt_mapM hr
      simp only [Prod.mk.injEq] at hd
      obtain ⟨rfl, _⟩ := hd
      simp only [List.length_range] at l2 l3
      have hw : DataW.weights P t (.slice (elems.map (·.1)) (rest.map (·.1)) : DataW H) = (cap * P.bytesOf e) :: (DataW.weightsAll P e (elems.map (·.1)) ++ DataW.weightsAll P e (rest.map (·.1))) := by
        simp only [DataW.weights, hu, List.length_map, l2, l3]
        rw [show len + (cap - len) = cap by omega]
      rw [hw]
      refine ⟨hc.2.1, hc.2.2, by simp, fun i hi => ?_⟩
      obtain ⟨y, hm, hy⟩ : ∃ y : DataW H × List MemPlace, (y ∈ elems ∨ y ∈ rest) ∧ (W.cells? 0 (a.add (i * P.cellsOf e)) (P.cellsOf e)).bind (DataW.trod enc P W 0 (fun _ => true) held fuel e) = some y := by
        rcases Nat.lt_or_ge i len with hl | hl
        · obtain ⟨y, h0, hy⟩ := h2 i i (by simp [hl])
          exact ⟨y, .inl (List.mem_of_getElem? h0), hy⟩
        · obtain ⟨y, h0, hy⟩ := h3 (i - len) (i - len) (by rw [List.getElem?_range (by omega)])
          rw [show len + (i - len) = i by omega] at hy
          exact ⟨y, .inr (List.mem_of_getElem? h0), hy⟩
      obtain ⟨cs, hcs, hy⟩ := Option.bind_eq_some_iff.1 hy
      refine ⟨cs, y.1, y.2, hcs, hy, fun n hn => ?_⟩
      simp only [List.mem_cons, List.mem_append]
      rcases hm with hm | hm
      · exact .inr (.inl (weightsAll_mem (List.mem_map_of_mem hm) n hn))
      · exact .inr (.inr (weightsAll_mem (List.mem_map_of_mem hm) n hn))
  all_goals simp at h

theorem trod_struct_w {t : TypeId} {fs : Array Field} (hu : P.underlying t = some (.struct fs)) {fuel : Nat} {cs : List Value} {d : DataW H} {ps : List MemPlace} (h : DataW.trod enc P W 0 sp held (fuel + 1) t cs = some (d, ps)) :
    cs.length = P.cellsOf t ∧ ∀ (i : Nat) f, fs[i]? = some f → ∃ d' ps, DataW.trod enc P W 0 sp held fuel f.type ((cs.drop f.offset).take (P.cellsOf f.type)) = some (d', ps) ∧ ∀ n ∈ d'.weights P f.type, n ∈ d.weights P t := by
  unfold DataW.trod at h
  rw [hu] at h
  simp only at h
  split at h; rotate_left; · cases h
  rename_i hc
  refine ⟨hc, fun i f hf => ?_⟩
  obtain ⟨xs, hx, hd⟩ := Option.map_eq_some_iff.1 h
  obtain ⟨_, h2⟩ := opt_mapM hx
  obtain ⟨y, h0, hy⟩ := h2 i f (by simpa using hf)
  simp only [Prod.mk.injEq] at hd
  obtain ⟨rfl, _⟩ := hd
  refine ⟨y.1, y.2, hy, fun n hn => ?_⟩
  have hw : DataW.weights P t (.agg (xs.map (·.1)) : DataW H) = DataW.weightsEach P (fs.toList.map (·.type)) (xs.map (·.1)) := by simp only [DataW.weights, hu]
  rw [hw]
  exact DataW.weights_mem_each (j := i) (t := f.type) (by simp [hf]) (by simp [h0]) n hn

end

theorem read_slice {H : Type} {enc : TypeId × Value → H} {P : Program} {W : World} {held : Bool} {t e k : TypeId} {X : Type} {en : X → List D} {ok : X → Prop} (hu : P.underlying t = some (.slice e)) (hk : P.cellsOf e = k) (hk0 : 0 < k) (hlen : ∀ x, (en x).length = k)
    {fuel : Nat} (elem : ∀ (cs : List Value) (d : DataW H) (ps : List MemPlace), DataW.trod enc P W 0 (fun _ => true) held fuel e cs = some (d, ps) → (∀ x ∈ d.weights P e, x ≤ reachBytes) → ∃ x, RC g0 W (en x) cs ∧ ok x)
    {v : Value} {d : DataW H} {ps : List MemPlace} (h : DataW.trod enc P W 0 (fun _ => true) held (fuel + 1) t [v] = some (d, ps)) (hwt : ∀ x ∈ d.weights P t, x ≤ reachBytes) :
    ∃ l : List X, R g0 W (.slice .no k (l.map en)) v ∧ v.oneCell' = true ∧ l.length * P.bytesOf e ≤ reachBytes ∧ ∀ x ∈ l, ok x := by
  rcases trod_slice_w hu h with rfl | ⟨ad, len, cap, rfl, hlc, hcm, hcw, hel⟩
  · refine ⟨[], ?_, rfl, by simp, fun _ h => by cases h⟩
    simp only [R, List.map_nil]
    exact ⟨none, 0, rfl, Nat.le_refl _, ⟨rfl, rfl⟩, trivial, fun b off hA => by cases hA⟩
  · rw [hk] at hel
    have pick : ∀ j, j ≤ len → ∃ ks : List X, ks.length = j ∧ (∀ x ∈ ks, ok x) ∧ ∀ i n, ks[i]? = some n → ∃ cs, W.cells? 0 (ad.add ((len - j + i) * k)) k = some cs ∧ RC g0 W (en n) cs := by
      intro j
      induction j with
      | zero => exact fun _ => ⟨[], rfl, (fun _ h => by cases h), fun i n h => by simp at h⟩
      | succ j ih =>
        intro hj
        obtain ⟨ks, h1, h2, h3⟩ := ih (by omega)
        obtain ⟨cs, d', ps', hcs, htr, hww⟩ := hel (len - (j + 1)) (by omega)
        obtain ⟨n, hn, hok⟩ := elem cs d' ps' htr fun x hx => hwt x (hww x hx)
        refine ⟨n :: ks, by simp [h1], ?_, fun i m hm => ?_⟩
        · intro x hx
          rcases List.mem_cons.1 hx with rfl | hx
          · exact hok
          · exact h2 x hx
        · cases i with
          | zero =>
            simp at hm
            subst hm
            exact ⟨cs, by simpa using hcs, hn⟩
          | succ i =>
            obtain ⟨cs', q1, q2⟩ := h3 i m (by simpa using hm)
            exact ⟨cs', by rwa [show len - (j + 1) + (i + 1) = len - j + i by omega], q2⟩
    obtain ⟨ks, h1, h2, h3⟩ := pick len (Nat.le_refl _)
    have hcell : ∀ (i : Nat) n, ks[i]? = some n → ∀ (j : Nat) dd, (en n)[j]? = some dd → ∃ u, W.cell? ((ad.add (i * k)).add j) = some u ∧ u.oneCell' = true ∧ R g0 W dd u := by
      intro i n hi j dd hj
      obtain ⟨cs, q1, q2⟩ := h3 i n hi
      rw [show len - len + i = i by omega] at q1
      obtain ⟨r1, r2⟩ := cells_read q1
      obtain ⟨u, hu, ho, hr⟩ := q2.get hj
      have hjl : j < k := by
        have := (List.getElem?_eq_some_iff.1 hj).1
        rwa [hlen] at this
      obtain ⟨v, hv1, hv2⟩ := r2 j hjl
      rw [hu] at hv1
      injection hv1 with hv1
      subst hv1
      exact ⟨u, hv2, ho, hr⟩
    have hcb := hwt _ hcw
    refine ⟨ks, ?_, rfl, ?_, h2⟩
    · simp only [R]
      refine ⟨some ad, cap, by rw [List.length_map, h1], by rw [List.length_map, h1]; exact hlc, ?_, trivial, fun b off hA => ?_⟩
      · by_cases hk : cap = 0
        · exact Or.inr hk
        · refine Or.inl ?_
          obtain ⟨cs, d', ps', hcs, _, _⟩ := hel 0 (by omega)
          obtain ⟨v, _, hv⟩ := (cells_read hcs).2 0 (by omega)
          have := (imm0 hv).1
          simpa [Addr.add] using this
      · injection hA with hA
        subst hA
        refine RX.of_get fun i x hx => ?_
        obtain ⟨n, hn, rfl⟩ : ∃ n, ks[i]? = some n ∧ en n = x := by simpa using hx
        refine ⟨hlen n, RM.of_get fun j dd hj => ?_⟩
        obtain ⟨u, hu, ho, hr⟩ := hcell i n hn j dd hj
        obtain ⟨_, him⟩ := imm0 hu
        refine ⟨u, ?_, ho, hr⟩
        simpa [Addr.add_lit] using him
    · refine Nat.le_trans (Nat.mul_le_mul_right _ ?_) hcb
      omega

end Go.Hl
set_option linter.unusedSectionVars false
set_option linter.unusedVariables false
namespace Go.Hl
open Go Go.RowKit

def σG (gl : Nat → Option (List D)) : St := ⟨fun _ => none, gl, 0⟩

theorem RC_of {g : G} {w : World} : ∀ {ds : List D} {vs : List Value}, vs.length = ds.length → (∀ (i : Nat) d v, ds[i]? = some d → vs[i]? = some v → v.oneCell' = true ∧ R g w d v) → RC g w ds vs
  | [], [], _, _ => by simp only [RC]
  | [], _ :: _, h, _ => by simp at h
  | _ :: _, [], h, _ => by simp at h
  | d :: ds, v :: vs, h, k => by
    simp only [RC]
    exact ⟨v, vs, rfl, k 0 d v rfl rfl, RC_of (by simpa using h) fun i d' v' h1 h2 => k (i + 1) d' v' (by simpa using h1) (by simpa using h2)⟩

theorem relG {P : Program} {W : World} {gl : Nat → Option (List D)} (h : ∀ k cs, gl k = some cs → ∃ c e z, W.heap[k]? = some (.cells c e z) ∧ RC g0 W cs c.toList) : Rel P g0 (σG gl) W where
  gw := (rel0 P W).gw
  next := rfl
  obj := fun _ _ h => by cases h
  glob := fun k cs hk => ⟨h k cs hk, fun _ _ h => by cases h⟩

theorem calls_ofG {P : Program} {f : Nat} {ds : List D} {vs : List Value} {W : World} {σ : St} {Q : D → St → Prop} (hb : hasBody P f = true) (hrel : Rel P g0 σ W) (h : HCalls P f ds σ Q) (hr : RL g0 W ds vs) :
    Calls P f vs.toArray W fun e W' => ∃ v d g' σ', e = .returned v ∧ Below W.heap.size W W' ∧ R g' W' d v ∧ Q d σ' := by
  have h1 := h g0 W vs hrel hr
  rw [callFunc_has hb] at h1
  refine callsIn_wide.1 (CallsIn.mono h1 ?_)
  intro e W' he
  cases e <;> simp only [HRet] at he
  obtain ⟨d, g', σ', hE, hR, hd, hq⟩ := he
  exact ⟨_, d, g', σ', rfl, ⟨hE.out.os, hE.out.tape, hE.out.output, hE.size, fun k hk => hE.still k hk (fun id h ha => by cases ha)⟩, hd, hq⟩

section
variable {H : Type} {enc : TypeId × Value → H} {P : Program} {W : World} {sp : Nat → Bool} {held : Bool}

theorem var_heap {n : String} {k : Nat} {cs : Array Value} (hg : P.globalNamed n = some k) (hv : W.var? P n = some cs) : ∃ e z, W.heap[k]? = some (.cells cs e z) := by
  unfold World.var? at hv
  simp only [hg, Option.bind_some] at hv
  split at hv
  · rename_i c e z hh
    injection hv with hv
    subst hv
    exact ⟨e, z, hh⟩
  · cases hv

theorem trod_array1 {t e n : Nat} (hu : P.underlying t = some (.array n e)) (hc : P.cellsOf e = 1) (ht : P.cellsOf t = n) {fuel : Nat} {cs : List Value} {ds : List (DataW H)} {ps : List MemPlace} (h : DataW.trod enc P W 0 sp held fuel t cs = some (.agg ds, ps)) :
    cs.length = n ∧ ds.length = n ∧ ∃ fuel', ∀ (i : Nat) v d, cs[i]? = some v → ds[i]? = some d → ∃ ps, DataW.trod enc P W 0 sp held fuel' e [v] = some (d, ps) := by
  cases fuel with
  | zero => simp [DataW.trod] at h
  | succ fuel =>
    unfold DataW.trod at h
    rw [hu] at h
    simp only at h
    split at h; rotate_left; · cases h
    rename_i hl
    obtain ⟨xs, hx, he⟩ := Option.map_eq_some_iff.1 h
    obtain ⟨l2, h2⟩ := opt_mapM hx
    simp only [Prod.mk.injEq, DataW.agg.injEq] at he
    obtain ⟨rfl, _⟩ := he
    simp only [List.length_range] at l2
    rw [ht] at hl
    refine ⟨hl, by simp [l2], fuel, fun i v d hv hd => ?_⟩
    have hi : i < n := by rw [← hl]; exact (List.getElem?_eq_some_iff.1 hv).1
    obtain ⟨y, hy, hd'⟩ := h2 i i (by simp [hi])
    simp only [List.getElem?_map, hy, Option.map_some, Option.some.injEq] at hd
    subst hd
    rw [hc, Nat.mul_one] at hd'
    have e1 : (cs.drop i).take 1 = [v] := by
      obtain ⟨h0, h1⟩ := List.getElem?_eq_some_iff.1 hv
      rw [List.drop_eq_getElem_cons h0, h1]
      rfl
    rw [e1] at hd'
    exact ⟨y.2, hd'⟩

theorem RC_strs {t e n : Nat} (hu : P.underlying t = some (.array n e)) (hs : P.underlying e = some .string) (hc : P.cellsOf e = 1) (ht : P.cellsOf t = n) {fuel : Nat} {cs : List Value} {l : List ByteArray} {ps : List MemPlace}
    (h : DataW.trod enc P W 0 sp held fuel t cs = some (.agg (l.map fun s => .lit (.string s.data.toList)), ps)) : RC g0 W (l.map D.str) cs := by
  obtain ⟨h1, h2, fuel', h3⟩ := trod_array1 hu hc ht h
  rw [List.length_map] at h2
  refine RC_of (by rw [List.length_map, h1, h2]) fun i d v hd hv => ?_
  obtain ⟨s, hs', rfl⟩ : ∃ s, l[i]? = some s ∧ D.str s = d := by simpa using hd
  obtain ⟨ps', h4⟩ := h3 i v (.lit (.string s.data.toList)) hv (by simp only [List.getElem?_map, hs', Option.map_some])
  cases fuel' with
  | zero => simp [DataW.trod] at h4
  | succ fuel' =>
    unfold DataW.trod at h4
    rw [hs] at h4
    cases v <;> simp at h4
    rename_i s2
    obtain ⟨_, he, _⟩ := h4
    have : s2 = s := by
      cases s2
      cases s
      simp only at he
      rw [he]
    subst this
    simp only [R]
    exact ⟨rfl, trivial⟩

theorem RC_ints {t e n : Nat} {k : IntKind} (hu : P.underlying t = some (.array n e)) (hs : P.underlying e = some (.int k)) (hc : P.cellsOf e = 1) (ht : P.cellsOf t = n) {fuel : Nat} {cs : List Value} {l : List Int} {ps : List MemPlace}
    (h : DataW.trod enc P W 0 sp held fuel t cs = some (.agg (l.map fun z => .lit (.int k z)), ps)) : RC g0 W (l.map fun z => D.int k z) cs := by
  obtain ⟨h1, h2, fuel', h3⟩ := trod_array1 hu hc ht h
  rw [List.length_map] at h2
  refine RC_of (by rw [List.length_map, h1, h2]) fun i d v hd hv => ?_
  obtain ⟨z, hz, rfl⟩ : ∃ z, l[i]? = some z ∧ D.int k z = d := by simpa using hd
  obtain ⟨ps', h4⟩ := h3 i v (.lit (.int k z)) hv (by simp only [List.getElem?_map, hz, Option.map_some])
  cases fuel' with
  | zero => simp [DataW.trod] at h4
  | succ fuel' =>
    unfold DataW.trod at h4
    rw [hs] at h4
    cases v <;> simp at h4
    obtain ⟨⟨rfl, _⟩, rfl, _⟩ := h4
    simp only [R]
    exact ⟨rfl, trivial⟩

theorem RC_iface {t : Nat} {ms : Array (String × TypeId)} (hu : P.underlying t = some (.interface ms)) {fuel : Nat} {cs : List Value} {name : String} {d : DataW H} {ps : List MemPlace}
    (h : DataW.trod enc P W 0 sp false fuel t cs = some (.iface name d, ps)) : ∃ u, RC g0 W [.iface u .undef] cs := by
  obtain ⟨_, u, v, rfl, _, _⟩ := iface_of_trod hu h
  refine ⟨u, RC_of rfl fun i d v' hd hv => ?_⟩
  cases i with
  | zero =>
    simp only [List.getElem?_cons_zero, Option.some.injEq] at hd hv
    subst hd
    subst hv
    simp only [R]
    exact ⟨rfl, v, rfl, trivial⟩
  | succ i => simp at hd

end

end Go.Hl
set_option linter.unusedVariables false
set_option maxRecDepth 100000
namespace Go.Proofs.YtijcddlahidhhaaGreatDoor
open Go Go.Hl Go.RowKit Go.ChangeShapes Go.WideShapes Go.ChangeAt

def laidL : List (String × DataW Unit) := [("math/bits.deBruijn32tab", Rows.laid_math_bits_deBruijn32tab), ("math/bits.deBruijn64tab", Rows.laid_math_bits_deBruijn64tab), ("internal/strconv.uint64pow10", Rows.laid_internal_strconv_uint64pow10), ("strconv.ErrRange", Rows.laid_strconv_ErrRange), ("strconv.ErrSyntax", Rows.laid_strconv_ErrSyntax), ("namesake/sign.words", Rows.laid_namesake_sign_words)]

def glK (t1 t2 : Nat) (m : Int) (k : Nat) : Option (List D) :=
  if k = 0 then some (kwS.map D.str)
  else if k = 2 then some [.iface t1 .undef]
  else if k = 3 then some [.iface t2 .undef]
  else if k = 4 then some (Lib.pow10Tab.map fun z => .int .u64 z)
  else if k = 1 then some [.int .i64 m]
  else none

theorem start_of {W : World} (h : laidMet Tryz.prog laidL W) (hsh : W.ShapedOpen Tryz.prog) : ∃ σ, GM σ ∧ Rel Tryz.prog g0 σ W := by
  obtain ⟨m, hm⟩ := Go.Proofs.cell_of_shapedOpen_int (g := 1) (zero := #[.int .i64 0]) (t := 3) hsh (of_decide_eq_true (by kernel_rfl)) (by kernel_rfl) rfl (by kernel_rfl) (by kernel_rfl) Tryz.underlying3
  obtain ⟨ps, ⟨_, _, _, _, _, _, _, _, _, _, ⟨_, _, _, _, _, _, _, _, _, _, ⟨gp, tp, cp, fp, pp, qp, hgp, htp, hvp, hdp, ⟨gr, tr, cr, fr, pr, qr, hgr, htr, hvr, hdr, ⟨gs, ts, cs, fs, ps', qs, hgs, hts, hvs, hds, ⟨gw, tw, cw, fw, pw, qw, hgw, htw, hvw, hdw, _⟩, _⟩, _⟩, _⟩, _⟩, _⟩, _⟩ := h
  obtain rfl := Option.some.inj ((show Tryz.prog.globalNamed "internal/strconv.uint64pow10" = some 4 by kernel_rfl).symm.trans hgp)
  obtain rfl := Option.some.inj ((show Tryz.prog.globalNamed "strconv.ErrRange" = some 3 by kernel_rfl).symm.trans hgr)
  obtain rfl := Option.some.inj ((show Tryz.prog.globalNamed "strconv.ErrSyntax" = some 2 by kernel_rfl).symm.trans hgs)
  obtain rfl := Option.some.inj ((show Tryz.prog.globalNamed "namesake/sign.words" = some 0 by kernel_rfl).symm.trans hgw)
  obtain rfl := Option.some.inj ((show (Tryz.prog.globals[4]?).map (·.type) = some 150 by kernel_rfl).symm.trans htp)
  obtain rfl := Option.some.inj ((show (Tryz.prog.globals[3]?).map (·.type) = some 26 by kernel_rfl).symm.trans htr)
  obtain rfl := Option.some.inj ((show (Tryz.prog.globals[2]?).map (·.type) = some 26 by kernel_rfl).symm.trans hts)
  obtain rfl := Option.some.inj ((show (Tryz.prog.globals[0]?).map (·.type) = some 117 by kernel_rfl).symm.trans htw)
  obtain ⟨ms, hms⟩ : ∃ ms, Tryz.prog.underlying 26 = some (.interface ms) := isIface_spec (by kernel_rfl)
  obtain ⟨t1, r1⟩ := RC_iface hms hds
  obtain ⟨t2, r2⟩ := RC_iface hms hdr
  have r4 : RC g0 W (Lib.pow10Tab.map fun z => D.int .u64 z) cp.toList := RC_ints (l := Lib.pow10Tab) (show Tryz.prog.underlying 150 = some (.array 20 133) by kernel_rfl) (show Tryz.prog.underlying 133 = some (.int .u64) by kernel_rfl) (by kernel_rfl) (by kernel_rfl) hdp
  have r0 : RC g0 W (kwS.map D.str) cw.toList := RC_strs (l := kwS) (show Tryz.prog.underlying 117 = some (.array 18 9) by kernel_rfl) (show Tryz.prog.underlying 9 = some .string by kernel_rfl) (by kernel_rfl) (by kernel_rfl) hdw
  refine ⟨σG (glK t1 t2 m), ⟨⟨rfl, ⟨_, rfl⟩, ⟨_, rfl⟩, rfl⟩, ⟨_, rfl⟩⟩, relG fun k c hk => ?_⟩
  unfold glK at hk
  split at hk
  · rename_i e; subst e
    obtain rfl := Option.some.inj hk
    obtain ⟨e, z, hh⟩ := var_heap hgw hvw
    exact ⟨_, e, z, hh, r0⟩
  split at hk
  · rename_i e; subst e
    obtain rfl := Option.some.inj hk
    obtain ⟨e, z, hh⟩ := var_heap hgs hvs
    exact ⟨_, e, z, hh, r1⟩
  split at hk
  · rename_i e; subst e
    obtain rfl := Option.some.inj hk
    obtain ⟨e, z, hh⟩ := var_heap hgr hvr
    exact ⟨_, e, z, hh, r2⟩
  split at hk
  · rename_i e; subst e
    obtain rfl := Option.some.inj hk
    obtain ⟨e, z, hh⟩ := var_heap hgp hvp
    exact ⟨_, e, z, hh, r4⟩
  split at hk
  · rename_i e; subst e
    obtain rfl := Option.some.inj hk
    obtain ⟨cs, hh, hs, _⟩ := hsh.1 1 #[.int .i64 0] 3 (of_decide_eq_true (by kernel_rfl)) (by kernel_rfl)
    have hs' : cs.size = 1 := hs
    have hm' : cs[0]? = some (.int .i64 m) := by
      unfold World.cell? at hm
      rw [hh] at hm
      simpa using hm
    obtain ⟨l⟩ := cs
    simp only [List.size_toArray] at hs'
    match l, hs' with
    | [v], _ =>
      simp only [List.getElem?_toArray, List.getElem?_cons_zero, Option.some.injEq] at hm'
      subst hm'
      exact ⟨_, _, _, hh, by simp only [RC, R]; exact ⟨_, _, rfl, ⟨rfl, rfl⟩, rfl⟩⟩
  · cases hk

def rangeS : ByteArray := ⟨#[118, 97, 108, 117, 101, 32, 111, 117, 116, 32, 111, 102, 32, 114, 97, 110, 103, 101]⟩
def syntaxS : ByteArray := ⟨#[105, 110, 118, 97, 108, 105, 100, 32, 115, 121, 110, 116, 97, 120]⟩

def litV : DataW Unit → Value
  | .lit (.int k n) => .int k n
  | .lit (.string bs) => .string ⟨bs.toArray⟩
  | _ => .nilIface
def aggV : DataW Unit → Array Value
  | .agg ds => (ds.map litV).toArray
  | _ => #[]
def setC (cs : Array Value) : Obj → Obj
  | .cells _ t frozen => .cells cs t frozen
  | o => o

noncomputable def low : Nat := (World.holding Tryz.prog default ⟨#[], #[], []⟩).heap.size

noncomputable def laidWorld (os : Os) : World :=
  let w0 := World.holding Tryz.prog os ⟨#[.cells #[.string rangeS] 148, .cells #[.string syntaxS] 148], #[], []⟩
  { w0 with heap := (((((w0.heap.modify 0 (setC (aggV Rows.laid_namesake_sign_words))).modify 4 (setC (aggV Rows.laid_internal_strconv_uint64pow10))).modify 5 (setC (aggV Rows.laid_math_bits_deBruijn32tab))).modify 6 (setC (aggV Rows.laid_math_bits_deBruijn64tab))).modify 3 (setC #[.iface 146 (.pointer (some ⟨low, 0, none⟩))])).modify 2 (setC #[.iface 146 (.pointer (some ⟨low + 1, 0, none⟩))]) }

theorem laidWorld_met (os : Os) (args : Array Value) : laidMetH Tryz.prog laidL ((laidWorld os).forCall (fun _ _ => 0) ⟨#[], args, []⟩).memory :=
  show laidMet Tryz.prog laidL _ from laidMet_of_run' 8 (by kernel_rfl) (by kernel_rfl)

theorem returns_shaped {H : Type} {enc : TypeId × Value → H} {a : Assume} {C : Checked} {os : Os} {f : FuncId} {fn : Func} {s : ChangeSpec} {conds : List PathCond} {apart fresh handsOn again : Bool} {X : World → Array Value → Prop}
    (hX : ∀ (w w' : World) (args : Array Value), w.heap = w'.heap → X w args → X w' args)
    (own : ownKnob C.prog.godebug = none) (started : os.Started) (noInit : C.prog.inits.idxOf? f = none) (hfn : C.prog.funcs[f]? = some fn)
    (witness : ∃ (w : World) (tape : Tape) (i : Input), w.os = os ∧ (w.forCall tape i).Shaped C.prog ∧ i.vars = [] ∧ Input.okWide C.prog (w.forCall tape i) .any w.heap.size f i ∧
      ((s.pre enc C.prog fn conds apart (w.forCall tape i).memory i.args ∧ X (w.forCall tape i).memory i.args) ∧ sizedMet enc C.prog fn (OpenSpec.ofChange s) apart (w.forCall tape i).memory i.args) ∧ a.holds C.prog (lone (Frame.enter C.prog f i.args .normal) [] (w.forCall tape i)))
    (contract : ∀ (W : World) (base : Nat) (args : Array Value) (ds gs : List (DataW H)) (before : List MemPlace), W.ShapedOpen C.prog →
      (∀ (j : Nat) t v, fn.params[j]? = some t → args[j]? = some v → Value.okWide C.prog W .any base t v) →
      DataW.Whole enc C.prog fn.params.toList s.vars apart W args.toList ds gs before →
      (DataW.weightsEach C.prog (fn.params.toList ++ s.plain.varTypes C.prog) (ds ++ gs)).all (· ≤ reachBytes) = true → X W args →
      Calls C.prog f args W fun e W' => ∃ v, e = .returned v ∧ s.post enc C.prog fn apart fresh handsOn again W args v W') :
    ReturnsInHanded a C os f .any (fun w args => (s.pre enc C.prog fn conds apart w args ∧ X w args) ∧ sizedMet enc C.prog fn (OpenSpec.ofChange s) apart w args) (s.post enc C.prog fn apart fresh handsOn again) := by
  refine returnsInHanded_of_calls own started noInit witness ?_
  intro w tape i _ hsh _ hok hpre _
  obtain ⟨_, _, _, fn', hfn', _, _, _, _, hval⟩ := hok
  obtain rfl : fn' = fn := Option.some.inj (hfn'.symm.trans hfn)
  obtain ⟨⟨⟨ds, gs, before, hw, _⟩, hx⟩, hz⟩ := hpre
  refine (contract (w.forCall tape i) w.heap.size i.args ds gs before hsh hval (DataW.Whole.of_heap (w' := w.forCall tape i) (by rfl) hw) (hz.weights hw) (hX _ _ _ (by rfl) hx)).mono ?_
  rintro e W' ⟨v, rfl, hp⟩
  exact ChangeSpec.post_blind hp

end Go.Proofs.YtijcddlahidhhaaGreatDoor
