/-
  Layer 6: the reference's list; the same tokens; the example.
-/
import Derived.Test.YteffbibilpbhjaaDoorLxE
import Derived.KernelRfl
set_option linter.unusedSectionVars false
set_option linter.unusedVariables false
set_option linter.unusedSimpArgs false
set_option maxRecDepth 100000

namespace Go.Hl
open Go Go.Proofs Go.RowKit

structure RlI where
  c : List Tk3
  a : Nat

theorem rlist_calls (s : ByteArray) (hs : s.size ≤ 1073741824) (σ : St) : HCalls Tryd.prog 9 [.str s] σ (fun d σ' => d = .slice .no 3 (encTk (toks s.data.toList 0)) ∧ σ' = σ) := by
  refine hcalls_body (fn := Tryd.f9) rfl c9 (by simp [h9]) (by simp [h9, Tryd.f9]) ?_
  intro M hP hr hnt hnx hwf hlt
  simp only [h9, argEnv]
  have hnt' : M.nt = 20 := hnt
  refine hgo_sound 8 ?_
  simp -implicitDefEqProofs (maxSteps := 1000000) only [simpS, ↓condJ_true, ↓condJ_false, ↓reduceIte, Nat.reduceEqDiff, Nat.reduceLT, Nat.reduceLeDiff, reduceCtorEq, Nat.reduceAdd, Nat.reduceSub, bindG_none, addG_none, hgrpK_none, nestK_none, hgrpK_guarded, Option.map_none, beq_self_eq_true, bne_self_eq_false, Option.map_some, if_true, if_false, List.getD_cons_zero, List.getD_cons_succ, List.length_cons, List.length_nil, List.mem_cons, List.not_mem_nil, List.mem_append, List.nil_append, List.cons_append, List.append_nil, List.take_succ_cons, List.take_zero, List.drop_succ_cons, List.drop_zero, List.set_cons_zero, List.set_cons_succ, List.map_cons, List.map_nil, implies_true, forall_const, ne_eq]
  refine hx_full (t := 3) 33 3 rfl ?_ (fun _ e => by cases e) (fun _ e => by cases e)
  refine hgo_sound 60 ?_
  simp -implicitDefEqProofs (maxSteps := 1000000) only [simpS, ↓condJ_true, ↓condJ_false, ↓reduceIte, Nat.reduceEqDiff, Nat.reduceLT, Nat.reduceLeDiff, reduceCtorEq, Nat.reduceAdd, Nat.reduceSub, bindG_none, addG_none, hgrpK_none, nestK_none, hgrpK_guarded, Option.map_none, beq_self_eq_true, bne_self_eq_false, Option.map_some, if_true, if_false, List.getD_cons_zero, List.getD_cons_succ, List.length_cons, List.length_nil, List.mem_cons, List.not_mem_nil, List.mem_append, List.nil_append, List.cons_append, List.append_nil, List.take_succ_cons, List.take_zero, List.drop_succ_cons, List.drop_zero, List.set_cons_zero, List.set_cons_succ, List.map_cons, List.map_nil, implies_true, forall_const, ne_eq]
  refine hx_know_code fun hw hl hn => ?_
  have hS : ∀ n : Nat, (σ.new (.tok 33 n)).wf := fun n => hwf.new trivial
  refine hx_loop (S := RlI) (fun t => [(0, .str s), (3, .slice (.tok σ.next) 3 (encTk t.c)), (4, .int .i64 (t.a : Int))]) (fun t => σ.new (.tok 33 t.c.length))
    (fun t => t.a ≤ s.size ∧ t.c.length ≤ t.a ∧ toks s.data.toList 0 = t.c ++ toks (s.data.toList.drop t.a) t.a) (fun t => s.size - t.a) ⟨[], 0⟩
    ⟨Nat.zero_le _, Nat.le_refl _, rfl⟩ (fun _ _ h => by rw [hr] at h; cases h) ?_ ?_
  · exact Drop.all hw hn ⟨⟨rfl, trivial⟩, ⟨rfl, by simp only [D.lt, Own.lt, St.next_new]; exact ⟨by omega, trivial⟩⟩, ⟨rfl, trivial⟩, trivial⟩
  rintro ⟨c, a⟩ ⟨i1, i2, i3⟩
  simp only at i1 i2 i3 ⊢
  by_cases hi : a < s.size
  · have hd : decide ((a : Int) < (s.size : Int)) = true := decide_eq_true (by omega)
    have hne := drop_ne s a hi
    have hln := lexN_len _ hne
    rw [List.length_drop, len_list] at hln
    rw [toks_cons _ _ hne, List.drop_drop] at i3
    have hc := rnext_calls s a hi hs (σ.new (.tok 33 c.length))
    generalize lexN (s.data.toList.drop a) = kn at *
    obtain ⟨k, n⟩ := kn
    simp only at hln hc i3
    have hsz : (c.length + 1) * 24 ≤ 140737488355328 := by omega
    have hsz2 : c.length + 1 ≤ 9223372036854775807 := by omega
    refine hgo_sound 60 ?_
    simp -implicitDefEqProofs (maxSteps := 1000000) only [simpS, ↓condJ_true, ↓condJ_false, ↓reduceIte, Nat.reduceEqDiff, Nat.reduceLT, Nat.reduceLeDiff, reduceCtorEq, Nat.reduceAdd, Nat.reduceSub, bindG_none, addG_none, hgrpK_none, nestK_none, hgrpK_guarded, Option.map_none, beq_self_eq_true, bne_self_eq_false, Option.map_some, if_true, if_false, List.getD_cons_zero, List.getD_cons_succ, List.length_cons, List.length_nil, List.mem_cons, List.not_mem_nil, List.mem_append, List.nil_append, List.cons_append, List.append_nil, List.take_succ_cons, List.take_zero, List.drop_succ_cons, List.drop_zero, List.set_cons_zero, List.set_cons_succ, List.map_cons, List.map_nil, implies_true, forall_const, ne_eq, hd]
    refine hx_call (f := .fn 21) rfl (by rw [hP]; exact hcallD_func (hc)) ?_
    rintro _ σ2 ⟨rfl, h⟩
    subst σ2
    refine hgo_sound 60 ?_
    simp -implicitDefEqProofs (maxSteps := 1000000) only [simpS, ↓condJ_true, ↓condJ_false, ↓reduceIte, Nat.reduceEqDiff, Nat.reduceLT, Nat.reduceLeDiff, reduceCtorEq, Nat.reduceAdd, Nat.reduceSub, bindG_none, addG_none, hgrpK_none, nestK_none, hgrpK_guarded, Option.map_none, beq_self_eq_true, bne_self_eq_false, Option.map_some, if_true, if_false, List.getD_cons_zero, List.getD_cons_succ, List.length_cons, List.length_nil, List.mem_cons, List.not_mem_nil, List.mem_append, List.nil_append, List.cons_append, List.append_nil, List.take_succ_cons, List.take_zero, List.drop_succ_cons, List.drop_zero, List.set_cons_zero, List.set_cons_succ, List.map_cons, List.map_nil, implies_true, forall_const, ne_eq, encTk_length, hsz, hsz2]
    intro hw5 hl5 hn5
    refine ⟨⟨c ++ [⟨k, a, a + n⟩], a + n⟩, ⟨by simp only; omega, by simp only [List.length_append, List.length_cons, List.length_nil]; omega, by simp only [List.append_assoc, List.cons_append, List.nil_append]; exact i3⟩, by simp only; omega, ?_⟩
    simp only [List.length_append, List.length_cons, List.length_nil]
    refine Drop.allS (((Ext.refl _).new _).sub (hS _)) (hS _) (by rw [hnx, St.next_new]; omega) ⟨⟨rfl, trivial⟩, ⟨?_, by simp only [D.lt, Own.lt, St.next_new]; exact ⟨by omega, encTk_lt _ _⟩⟩, ⟨rfl, trivial⟩, trivial⟩
    rw [← encTk_snoc]
    rfl
  · have hd : decide ((a : Int) < (s.size : Int)) = false := decide_eq_false (by omega)
    rw [drop_end s a (by omega), toks_nil, List.append_nil] at i3
    rw [i3]
    refine hgo_sound 60 ?_
    simp -implicitDefEqProofs (maxSteps := 1000000) only [simpS, ↓condJ_true, ↓condJ_false, ↓reduceIte, Nat.reduceEqDiff, Nat.reduceLT, Nat.reduceLeDiff, reduceCtorEq, Nat.reduceAdd, Nat.reduceSub, bindG_none, addG_none, hgrpK_none, nestK_none, hgrpK_guarded, Option.map_none, beq_self_eq_true, bne_self_eq_false, Option.map_some, if_true, if_false, List.getD_cons_zero, List.getD_cons_succ, List.length_cons, List.length_nil, List.mem_cons, List.not_mem_nil, List.mem_append, List.nil_append, List.cons_append, List.append_nil, List.take_succ_cons, List.take_zero, List.drop_succ_cons, List.drop_zero, List.set_cons_zero, List.set_cons_succ, List.map_cons, List.map_nil, implies_true, forall_const, ne_eq, hd]
    exact fpost_strip (σ0 := σ) (ds := [.slice (.tok σ.next) 3 (encTk c)]) (Wk.refl _) (.inr rfl) (by rw [hnx]; exact Nat.le_refl _) hwf (((Ext.refl _).new _).sub hwf) rfl trivial (by simp only [tupD, frzD, if_true, D.lt, Own.lt]; exact ⟨trivial, encTk_lt _ _⟩) ⟨rfl, rfl⟩

/-! ### The same tokens -/

set_option maxHeartbeats 4000000 in
theorem same_calls (l : List Tk3) (hl0 : l.length ≤ 1099511627776) (σ : St) : HCalls Tryd.prog 11 [.slice .no 3 (encTk l), .slice .no 3 (encTk l)] σ (fun d σ' => d = .bool true ∧ σ' = σ) := by
  refine hcalls_body (fn := Tryd.f11) rfl c11 (by simp [h11]) (by simp [h11, Tryd.f11]) ?_
  intro M hP hr hnt hnx hwf hlt
  simp only [h11, argEnv]
  have hnt' : M.nt = 54 := hnt
  refine hgo_sound 60 ?_
  simp -implicitDefEqProofs (maxSteps := 1000000) only [simpS, ↓condJ_true, ↓condJ_false, ↓reduceIte, Nat.reduceEqDiff, Nat.reduceLT, Nat.reduceLeDiff, reduceCtorEq, Nat.reduceAdd, Nat.reduceSub, bindG_none, addG_none, hgrpK_none, nestK_none, hgrpK_guarded, Option.map_none, beq_self_eq_true, bne_self_eq_false, Option.map_some, if_true, if_false, List.getD_cons_zero, List.getD_cons_succ, List.length_cons, List.length_nil, List.mem_cons, List.not_mem_nil, List.mem_append, List.nil_append, List.cons_append, List.append_nil, List.take_succ_cons, List.take_zero, List.drop_succ_cons, List.drop_zero, List.set_cons_zero, List.set_cons_succ, List.map_cons, List.map_nil, implies_true, forall_const, ne_eq, encTk_length]
  refine hx_know_code fun hw hl hn => ?_
  refine hx_loop (S := RnI) (fun t => [(0, .slice .no 3 (encTk l)), (1, .slice .no 3 (encTk l)), (12, .int .i64 (l.length : Int)), (13, .int .i64 (t.i : Int))]) (fun t => σ)
    (fun t => t.i ≤ l.length) (fun t => l.length - t.i) ⟨0⟩ (Nat.zero_le _) (fun _ _ h => by rw [hr] at h; cases h) ?_ ?_
  · exact Drop.all hw hn ⟨⟨rfl, encTk_slt _ _⟩, ⟨rfl, encTk_slt _ _⟩, ⟨rfl, trivial⟩, ⟨rfl, trivial⟩, trivial⟩
  rintro ⟨i⟩ i1
  simp only at i1 ⊢
  by_cases hi : i < l.length
  · have hd : decide ((i : Int) < (l.length : Int)) = true := decide_eq_true (by omega)
    have hi' : (i : Int) < (l.length : Int) := by omega
    have hg := encTk_get l i hi
    have hwi : IntKind.i64.wrap ((i : Int) + 1) = ((i + 1 : Nat) : Int) := by rw [IntWalk.i64_in _ (by omega)]; rfl
    refine hgo_sound 60 ?_
    simp -implicitDefEqProofs (maxSteps := 1000000) only [simpS, ↓condJ_true, ↓condJ_false, ↓reduceIte, Nat.reduceEqDiff, Nat.reduceLT, Nat.reduceLeDiff, reduceCtorEq, Nat.reduceAdd, Nat.reduceSub, bindG_none, addG_none, hgrpK_none, nestK_none, hgrpK_guarded, Option.map_none, beq_self_eq_true, bne_self_eq_false, Option.map_some, if_true, if_false, List.getD_cons_zero, List.getD_cons_succ, List.length_cons, List.length_nil, List.mem_cons, List.not_mem_nil, List.mem_append, List.nil_append, List.cons_append, List.append_nil, List.take_succ_cons, List.take_zero, List.drop_succ_cons, List.drop_zero, List.set_cons_zero, List.set_cons_succ, List.map_cons, List.map_nil, implies_true, forall_const, ne_eq, hd]
    refine hx_drawgo 1 ?_
    simp -implicitDefEqProofs (maxSteps := 100000000) only [drawS, List.map_cons, List.map_nil, List.getElem?_cons_zero, List.getElem?_cons_succ, List.getElem?_nil, simpS, ↓condJ_true, ↓condJ_false, ↓reduceIte, Nat.reduceEqDiff, Nat.reduceLT, Nat.reduceLeDiff, reduceCtorEq, Nat.reduceAdd, Nat.reduceSub, bindG_none, addG_none, hgrpK_none, nestK_none, hgrpK_guarded, Option.map_none, beq_self_eq_true, bne_self_eq_false, Option.map_some, if_true, if_false, List.getD_cons_zero, List.getD_cons_succ, List.length_cons, List.length_nil, List.mem_cons, List.not_mem_nil, List.mem_append, List.nil_append, List.cons_append, List.append_nil, List.take_succ_cons, List.take_zero, List.drop_succ_cons, List.drop_zero, List.set_cons_zero, List.set_cons_succ, List.map_cons, List.map_nil, implies_true, forall_const, ne_eq, hnt', hi', hi, hg, encTk_length, Int.toNat_natCast, Int.natCast_nonneg]
    refine hgo_sound 60 ?_
    simp -implicitDefEqProofs (maxSteps := 1000000) only [simpS, ↓condJ_true, ↓condJ_false, ↓reduceIte, Nat.reduceEqDiff, Nat.reduceLT, Nat.reduceLeDiff, reduceCtorEq, Nat.reduceAdd, Nat.reduceSub, bindG_none, addG_none, hgrpK_none, nestK_none, hgrpK_guarded, Option.map_none, beq_self_eq_true, bne_self_eq_false, Option.map_some, if_true, if_false, List.getD_cons_zero, List.getD_cons_succ, List.length_cons, List.length_nil, List.mem_cons, List.not_mem_nil, List.mem_append, List.nil_append, List.cons_append, List.append_nil, List.take_succ_cons, List.take_zero, List.drop_succ_cons, List.drop_zero, List.set_cons_zero, List.set_cons_succ, List.map_cons, List.map_nil, implies_true, forall_const, ne_eq, hwi]
    intro hw5 hl5 hn5
    exact ⟨⟨i + 1⟩, by simp only; omega, by simp only; omega, Drop.all hw5 hn5 ⟨⟨rfl, encTk_slt _ _⟩, ⟨rfl, encTk_slt _ _⟩, ⟨rfl, trivial⟩, ⟨rfl, trivial⟩, trivial⟩⟩
  · have hd : decide ((i : Int) < (l.length : Int)) = false := decide_eq_false (by omega)
    refine hgo_sound 60 ?_
    simp -implicitDefEqProofs (maxSteps := 1000000) only [simpS, ↓condJ_true, ↓condJ_false, ↓reduceIte, Nat.reduceEqDiff, Nat.reduceLT, Nat.reduceLeDiff, reduceCtorEq, Nat.reduceAdd, Nat.reduceSub, bindG_none, addG_none, hgrpK_none, nestK_none, hgrpK_guarded, Option.map_none, beq_self_eq_true, bne_self_eq_false, Option.map_some, if_true, if_false, List.getD_cons_zero, List.getD_cons_succ, List.length_cons, List.length_nil, List.mem_cons, List.not_mem_nil, List.mem_append, List.nil_append, List.cons_append, List.append_nil, List.take_succ_cons, List.take_zero, List.drop_succ_cons, List.drop_zero, List.set_cons_zero, List.set_cons_succ, List.map_cons, List.map_nil, implies_true, forall_const, ne_eq, hd]
    exact fpost_pure (σ0 := σ) (.inr rfl) (by rw [hnx]; exact Nat.le_refl _) hwf (by first | exact Sub.refl σ | exact (((Ext.refl _).new _).sub hwf)) rfl trivial (by repeat' (first | trivial | apply And.intro | exact encTk_lt _ _)) ⟨rfl, rfl⟩

theorem ex_toks : toks (⟨#[97, 61, 49, 59, 47, 47, 120]⟩ : ByteArray).data.toList 0 = [⟨4, 0, 1⟩, ⟨6, 1, 2⟩, ⟨5, 2, 3⟩, ⟨6, 3, 4⟩, ⟨2, 4, 7⟩] := by kernel_rfl

set_option maxHeartbeats 2000000 in
theorem alive_calls (σ : St) (hg : GM σ) : HCalls Tryd.prog 8 [] σ (fun d σ' => d = .bool true ∧ σ' = σ) := by
  refine hcalls_body (fn := Tryd.f8) rfl c8 (by simp [h8]) (by simp [h8, Tryd.f8]) ?_
  intro M hP hr hnt hnx hwf hlt
  simp only [h8, argEnv]
  have hnt' : M.nt = 27 := hnt
  refine hgo_sound 60 ?_
  simp -implicitDefEqProofs (maxSteps := 1000000) only [simpS, ↓condJ_true, ↓condJ_false, ↓reduceIte, Nat.reduceEqDiff, Nat.reduceLT, Nat.reduceLeDiff, reduceCtorEq, Nat.reduceAdd, Nat.reduceSub, bindG_none, addG_none, hgrpK_none, nestK_none, hgrpK_guarded, Option.map_none, beq_self_eq_true, bne_self_eq_false, Option.map_some, if_true, if_false, List.getD_cons_zero, List.getD_cons_succ, List.length_cons, List.length_nil, List.mem_cons, List.not_mem_nil, List.mem_append, List.nil_append, List.cons_append, List.append_nil, List.take_succ_cons, List.take_zero, List.drop_succ_cons, List.drop_zero, List.set_cons_zero, List.set_cons_succ, List.map_cons, List.map_nil, implies_true, forall_const, ne_eq]
  have hc := list_calls ⟨#[97, 61, 49, 59, 47, 47, 120]⟩ (by decide) σ hg
  rw [ex_toks] at hc
  refine hx_call (f := .fn 12) rfl (by rw [hP]; exact hcallD_func (hc)) ?_
  rintro _ σ2 ⟨rfl, h⟩
  subst σ2
  have hl : (encTk [⟨4, 0, 1⟩, ⟨6, 1, 2⟩, ⟨5, 2, 3⟩, ⟨6, 3, 4⟩, ⟨2, 4, 7⟩]).length = 5 := rfl
  have h5 : (((5 : Nat) : Int) == 5) = true := rfl
  have g0 : (encTk [⟨4, 0, 1⟩, ⟨6, 1, 2⟩, ⟨5, 2, 3⟩, ⟨6, 3, 4⟩, ⟨2, 4, 7⟩]).getD (Int.toNat 0) [] = [.int .i64 4, .int .i64 0, .int .i64 1] := rfl
  have g2 : (encTk [⟨4, 0, 1⟩, ⟨6, 1, 2⟩, ⟨5, 2, 3⟩, ⟨6, 3, 4⟩, ⟨2, 4, 7⟩]).getD (Int.toNat 2) [] = [.int .i64 5, .int .i64 2, .int .i64 3] := rfl
  have g4 : (encTk [⟨4, 0, 1⟩, ⟨6, 1, 2⟩, ⟨5, 2, 3⟩, ⟨6, 3, 4⟩, ⟨2, 4, 7⟩]).getD (Int.toNat 4) [] = [.int .i64 2, .int .i64 4, .int .i64 7] := rfl
  generalize encTk [⟨4, 0, 1⟩, ⟨6, 1, 2⟩, ⟨5, 2, 3⟩, ⟨6, 3, 4⟩, ⟨2, 4, 7⟩] = L at *
  have p0 : (0 : Int) ≤ 0 ∧ (0 : Int) < ((5 : Nat) : Int) ∧ (0 : Int) ≤ 2 ∧ (2 : Int) < ((5 : Nat) : Int) ∧ (0 : Int) ≤ 4 ∧ (4 : Int) < ((5 : Nat) : Int) := by decide
  refine hgo_sound 60 ?_
  simp -implicitDefEqProofs (maxSteps := 1000000) only [simpS, ↓condJ_true, ↓condJ_false, ↓reduceIte, Nat.reduceEqDiff, Nat.reduceLT, Nat.reduceLeDiff, reduceCtorEq, Nat.reduceAdd, Nat.reduceSub, bindG_none, addG_none, hgrpK_none, nestK_none, hgrpK_guarded, Option.map_none, beq_self_eq_true, bne_self_eq_false, Option.map_some, if_true, if_false, List.getD_cons_zero, List.getD_cons_succ, List.length_cons, List.length_nil, List.mem_cons, List.not_mem_nil, List.mem_append, List.nil_append, List.cons_append, List.append_nil, List.take_succ_cons, List.take_zero, List.drop_succ_cons, List.drop_zero, List.set_cons_zero, List.set_cons_succ, List.map_cons, List.map_nil, implies_true, forall_const, ne_eq, hl, h5, g0, g2, g4, p0.1, p0.2.1, p0.2.2.1, p0.2.2.2.1, p0.2.2.2.2.1, p0.2.2.2.2.2]
  exact fpost_pure (σ0 := σ) (.inr rfl) (by rw [hnx]; exact Nat.le_refl _) hwf (by first | exact Sub.refl σ | exact (((Ext.refl _).new _).sub hwf)) rfl trivial (by repeat' (first | trivial | apply And.intro | exact encTk_lt _ _)) ⟨rfl, rfl⟩

end Go.Hl
