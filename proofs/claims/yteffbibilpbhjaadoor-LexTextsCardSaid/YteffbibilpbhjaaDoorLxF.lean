/-
  Layer 6: the reference's list; the same tokens; the example.
-/
import Derived.Test.YteffbibilpbhjaaDoorLxE
import Derived.KernelRfl
set_option linter.unusedSectionVars false
set_option linter.unusedVariables false
set_option linter.unusedSimpArgs false
set_option maxRecDepth 100000

namespace Go.Hl
open Go Go.Proofs Go.RowKit

theorem ex_toks : toks (⟨#[97, 61, 49, 59, 47, 47, 120]⟩ : ByteArray).data.toList 0 = [⟨4, 0, 1⟩, ⟨6, 1, 2⟩, ⟨5, 2, 3⟩, ⟨6, 3, 4⟩, ⟨2, 4, 7⟩] := by kernel_rfl

set_option maxHeartbeats 2000000 in
theorem alive_calls (σ : St) (hg : GM σ) : HCalls Tryd.prog 8 [] σ (fun d σ' => d = .bool true ∧ σ' = σ) := by
  refine hcalls_body (fn := Tryd.f8) rfl c8 (by simp [h8]) (by simp [h8, Tryd.f8]) ?_
  intro M hP hr hnt hnx hwf hlt
  simp only [h8, argEnv]
  have hnt' : M.nt = 27 := hnt
  refine hgo_sound 60 ?_
  simp -implicitDefEqProofs (maxSteps := 1000000) only [simpS, ↓condJ_true, ↓condJ_false, ↓reduceIte, Nat.reduceEqDiff, Nat.reduceLT, Nat.reduceLeDiff, reduceCtorEq, Nat.reduceAdd, Nat.reduceSub, bindG_none, addG_none, hgrpK_none, nestK_none, hgrpK_guarded, Option.map_none, beq_self_eq_true, bne_self_eq_false, Option.map_some, if_true, if_false, List.getD_cons_zero, List.getD_cons_succ, List.length_cons, List.length_nil, List.mem_cons, List.not_mem_nil, List.mem_append, List.nil_append, List.cons_append, List.append_nil, List.take_succ_cons, List.take_zero, List.drop_succ_cons, List.drop_zero, List.set_cons_zero, List.set_cons_succ, List.map_cons, List.map_nil, implies_true, forall_const, ne_eq]
  have hc := list_calls ⟨#[97, 61, 49, 59, 47, 47, 120]⟩ (by decide) σ hg
  rw [ex_toks] at hc
  refine hx_call (f := .fn 12) rfl (by rw [hP]; exact hcallD_func (hc)) ?_
  rintro _ σ2 ⟨rfl, h⟩
  subst σ2
  have hl : (encTk [⟨4, 0, 1⟩, ⟨6, 1, 2⟩, ⟨5, 2, 3⟩, ⟨6, 3, 4⟩, ⟨2, 4, 7⟩]).length = 5 := rfl
  have h5 : (((5 : Nat) : Int) == 5) = true := rfl
  have g0 : (encTk [⟨4, 0, 1⟩, ⟨6, 1, 2⟩, ⟨5, 2, 3⟩, ⟨6, 3, 4⟩, ⟨2, 4, 7⟩]).getD (Int.toNat 0) [] = [.int .i64 4, .int .i64 0, .int .i64 1] := rfl
  have g2 : (encTk [⟨4, 0, 1⟩, ⟨6, 1, 2⟩, ⟨5, 2, 3⟩, ⟨6, 3, 4⟩, ⟨2, 4, 7⟩]).getD (Int.toNat 2) [] = [.int .i64 5, .int .i64 2, .int .i64 3] := rfl
  have g4 : (encTk [⟨4, 0, 1⟩, ⟨6, 1, 2⟩, ⟨5, 2, 3⟩, ⟨6, 3, 4⟩, ⟨2, 4, 7⟩]).getD (Int.toNat 4) [] = [.int .i64 2, .int .i64 4, .int .i64 7] := rfl
  generalize encTk [⟨4, 0, 1⟩, ⟨6, 1, 2⟩, ⟨5, 2, 3⟩, ⟨6, 3, 4⟩, ⟨2, 4, 7⟩] = L at *
  have p0 : (0 : Int) ≤ 0 ∧ (0 : Int) < ((5 : Nat) : Int) ∧ (0 : Int) ≤ 2 ∧ (2 : Int) < ((5 : Nat) : Int) ∧ (0 : Int) ≤ 4 ∧ (4 : Int) < ((5 : Nat) : Int) := by decide
  refine hgo_sound 60 ?_
  simp -implicitDefEqProofs (maxSteps := 1000000) only [simpS, ↓condJ_true, ↓condJ_false, ↓reduceIte, Nat.reduceEqDiff, Nat.reduceLT, Nat.reduceLeDiff, reduceCtorEq, Nat.reduceAdd, Nat.reduceSub, bindG_none, addG_none, hgrpK_none, nestK_none, hgrpK_guarded, Option.map_none, beq_self_eq_true, bne_self_eq_false, Option.map_some, if_true, if_false, List.getD_cons_zero, List.getD_cons_succ, List.length_cons, List.length_nil, List.mem_cons, List.not_mem_nil, List.mem_append, List.nil_append, List.cons_append, List.append_nil, List.take_succ_cons, List.take_zero, List.drop_succ_cons, List.drop_zero, List.set_cons_zero, List.set_cons_succ, List.map_cons, List.map_nil, implies_true, forall_const, ne_eq, hl, h5, g0, g2, g4, p0.1, p0.2.1, p0.2.2.1, p0.2.2.2.1, p0.2.2.2.2.1, p0.2.2.2.2.2]
  exact fpost_pure (σ0 := σ) (.inr rfl) (by rw [hnx]; exact Nat.le_refl _) hwf (by first | exact Sub.refl σ | exact (((Ext.refl _).new _).sub hwf)) rfl trivial (by repeat' (first | trivial | apply And.intro | exact encTk_lt _ _)) ⟨rfl, rfl⟩

end Go.Hl
