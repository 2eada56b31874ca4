/-
  The reference: Walk, Leaves.
-/
import Derived.Test.YtlaljehmcacmjaaTrG
set_option linter.unusedSectionVars false
set_option linter.unusedVariables false
set_option linter.unusedSimpArgs false
set_option maxRecDepth 100000
namespace Go.Hl
open Go Go.Proofs

structure WS where
  j : Nat
  ys : List (Int × Nd)

theorem map_stp_len (xs : List (Int × Nd)) : (xs.map stp).length = xs.length := List.length_map ..
theorem map_stp_lt (n : Nat) : ∀ xs : List (Int × Nd), ltX n (xs.map stp)
  | [] => trivial
  | x :: xs => ⟨⟨trivial, encN_lt n x.2⟩, map_stp_lt n xs⟩

theorem rwalk_calls : ∀ (sz : Nat) (n : Nd), cntN n ≤ sz → ∀ (d : Int) (xs : List (Int × Nd)) (t : Nat) (σ : St), 0 ≤ d → d + cntN n ≤ 1099511627776 → xs.length + cntN n ≤ 1099511627776 →
    σ.obj t = some (.tok 47 xs.length) →
    HCalls Try.prog 18 [.agg (encN n), .int .i64 d, .slice (.tok t) 6 (xs.map stp)] σ (fun r σ' => r = .slice (.tok t) 6 ((xs ++ preN d n).map stp) ∧ σ' = σ.put t (.tok 47 (xs ++ preN d n).length)) := by
  intro sz
  induction sz with
  | zero => intro n hn; have := cntN_pos n; omega
  | succ sz ih =>
  intro n hn d xs t σ hd0 hd1 hxl ht
  refine hcalls_body (fn := Try.f18) rfl c18 (by simp [h18]) (by simp [h18, Try.f18]) ?_
  intro M hP hr hnt hnx hwf hlt
  have hks := cntN_kids n
  have hkl := kids_le n.kids
  have htl := (hwf.obj _ _ ht).1
  have htn : ¬ t = σ.next := by omega
  have hb1 : (xs.length + 1) * 80 ≤ 140737488355328 := by omega
  have hb2 : xs.length + 1 ≤ 9223372036854775807 := by omega
  simp only [h18, argEnv]
  refine hgo_sound 60 ?_
  simp -implicitDefEqProofs (maxSteps := 1000000) only [simpS, ↓condJ_true, ↓condJ_false, ↓reduceIte, Nat.reduceEqDiff, Nat.reduceLT, Nat.reduceLeDiff, reduceCtorEq, Nat.reduceAdd, Nat.reduceSub, Option.map_some, if_true, if_false, List.getD_cons_zero, List.getD_cons_succ, List.length_cons, List.length_nil, List.mem_cons, List.not_mem_nil, List.mem_append, List.nil_append, List.cons_append, List.append_nil, List.take_succ_cons, List.take_zero, List.drop_succ_cons, List.drop_zero, List.set_cons_zero, List.set_cons_succ, List.map_cons, List.map_nil, implies_true, forall_const, ne_eq, htn, ht, encN_length, map_stp_len, hb1, hb2]
  refine hx_know_code fun hw hl hn1 => ?_
  have hwfT : ∀ ys : List (Int × Nd), ((σ.put t (.tok 47 ys.length)).new (.box (encN n))).wf := fun ys => (hwf.put htl (show (Ob.tok _ _).lt _ from trivial)).box (encN_lt _ n)
  have hpre : ∀ (m : Nd), preN d m = (d, m) :: preNs (d + 1) m.kids := fun m => by cases m; rfl
  refine hx_loop (S := WS) (fun s => [(1, .int .i64 d), (2, .slice (.tok t) 6 (s.ys.map stp)), (3, .ptr σ.next 0), (7, .int .i64 s.j)]) (fun s => (σ.put t (.tok 47 s.ys.length)).new (.box (encN n)))
    (fun s => s.j ≤ n.kids.length ∧ s.ys ++ preNs (d + 1) (n.kids.drop s.j) = xs ++ preN d n) (fun s => n.kids.length - s.j) ⟨0, xs ++ [(d, n)]⟩
    ⟨Nat.zero_le _, by simp only [List.drop_zero, hpre n, List.append_assoc, List.cons_append, List.nil_append]⟩ (fun _ _ h => by rw [hr] at h; cases h) ?_ ?_
  · refine Drop.allS ⟨Nat.le_refl _, fun id o h => ?_, rfl⟩ (hwfT _) (by rw [hnx]; exact Nat.le_succ _) ⟨⟨rfl, trivial⟩, ⟨?_, htl |> fun h => ⟨Nat.lt_succ_of_lt h, map_stp_lt _ _⟩⟩, ⟨rfl, Nat.lt_succ_self _⟩, ⟨rfl, trivial⟩, trivial⟩
    · simpa using h
    · simp [look, stp]
  rintro ⟨j, ys⟩ ⟨j1, j4⟩
  simp only at j1 j4 ⊢
  have hlen := congrArg List.length j4
  simp only [List.length_append, preNs_len, preN_len] at hlen
  have hjc : ((j : Int) < ((encNs n.kids).length : Int)) = (j < n.kids.length) := by rw [encNs_length]; simp
  by_cases hj : j < n.kids.length
  · have hjd : decide (((j : Nat) : Int) < ((encNs n.kids).length : Int)) = true := by simp [hjc, hj]
    have hget : (encNs n.kids).getD j [] = encN n.kids[j] := by rw [encNs_eq]; simp [List.getD, hj]
    have hjp : ((j : Int) < ((encNs n.kids).length : Int)) := by rw [encNs_length]; omega
    have hdrop : n.kids.drop j = n.kids[j] :: n.kids.drop (j + 1) := List.drop_eq_getElem_cons hj
    rw [hdrop] at j4 hlen
    simp only [preNs, cntNs] at j4 hlen
    have hcm := cntN_mem (List.getElem_mem hj)
    have hwd : IntKind.i64.wrap (d + 1) = d + 1 := IntWalk.i64_in _ (by omega)
    refine hgo_sound 60 ?_
    simp -implicitDefEqProofs (maxSteps := 1000000) only [simpS, ↓condJ_true, ↓condJ_false, ↓reduceIte, Nat.reduceEqDiff, Nat.reduceLT, Nat.reduceLeDiff, reduceCtorEq, Nat.reduceAdd, Nat.reduceSub, Option.map_some, if_true, if_false, List.getD_cons_zero, List.getD_cons_succ, List.length_cons, List.length_nil, List.mem_cons, List.not_mem_nil, List.mem_append, List.nil_append, List.cons_append, List.append_nil, List.take_succ_cons, List.take_zero, List.drop_succ_cons, List.drop_zero, List.set_cons_zero, List.set_cons_succ, List.map_cons, List.map_nil, implies_true, forall_const, ne_eq, htn, encN_kids, hjd, hjp, Int.toNat_natCast, Int.natCast_nonneg, hget, encN_length, encN_take, hwd]
    refine hx_call (f := .fn 18) rfl (by rw [hP]; exact hcallD_func (ih n.kids[j] (by omega) (d + 1) ys t _ (by omega) (by omega) (by omega) (by simp -implicitDefEqProofs (maxSteps := 1000000) only [simpS, ↓condJ_true, ↓condJ_false, ↓reduceIte, Nat.reduceEqDiff, Nat.reduceLT, Nat.reduceLeDiff, reduceCtorEq, Nat.reduceAdd, Nat.reduceSub, Option.map_some, if_true, if_false, List.getD_cons_zero, List.getD_cons_succ, List.length_cons, List.length_nil, List.mem_cons, List.not_mem_nil, List.mem_append, List.nil_append, List.cons_append, List.append_nil, List.take_succ_cons, List.take_zero, List.drop_succ_cons, List.drop_zero, List.set_cons_zero, List.set_cons_succ, List.map_cons, List.map_nil, implies_true, forall_const, ne_eq, htn]))) ?_
    rintro _ _ ⟨rfl, rfl⟩
    have hwr : IntKind.i64.wrap ((j : Int) + 1) = ((j + 1 : Nat) : Int) := by rw [IntWalk.i64_in _ (by omega)]; rfl
    refine hgo_sound 60 ?_
    simp -implicitDefEqProofs (maxSteps := 1000000) only [simpS, ↓condJ_true, ↓condJ_false, ↓reduceIte, Nat.reduceEqDiff, Nat.reduceLT, Nat.reduceLeDiff, reduceCtorEq, Nat.reduceAdd, Nat.reduceSub, Option.map_some, if_true, if_false, List.getD_cons_zero, List.getD_cons_succ, List.length_cons, List.length_nil, List.mem_cons, List.not_mem_nil, List.mem_append, List.nil_append, List.cons_append, List.append_nil, List.take_succ_cons, List.take_zero, List.drop_succ_cons, List.drop_zero, List.set_cons_zero, List.set_cons_succ, List.map_cons, List.map_nil, implies_true, forall_const, ne_eq, htn, hwr]
    intro hw2 hl2 hn2
    refine ⟨⟨j + 1, ys ++ preN (d + 1) n.kids[j]⟩, ⟨by simp only; omega, by simp only [List.append_assoc]; exact j4⟩, by simp only; omega, ?_⟩
    exact Drop.all hw2 (by rw [hnx]; exact Nat.le_succ _) ⟨⟨rfl, trivial⟩, ⟨rfl, Nat.lt_succ_of_lt htl, map_stp_lt _ _⟩, ⟨rfl, Nat.lt_succ_self _⟩, ⟨rfl, trivial⟩, trivial⟩
  · have hjd : decide (((j : Nat) : Int) < ((encNs n.kids).length : Int)) = false := by simp [hjc, hj]
    have hdrop : n.kids.drop j = [] := List.drop_eq_nil_of_le (by omega)
    rw [hdrop] at j4
    simp only [preNs, List.append_nil] at j4
    refine hgo_sound 60 ?_
    simp -implicitDefEqProofs (maxSteps := 1000000) only [simpS, ↓condJ_true, ↓condJ_false, ↓reduceIte, Nat.reduceEqDiff, Nat.reduceLT, Nat.reduceLeDiff, reduceCtorEq, Nat.reduceAdd, Nat.reduceSub, Option.map_some, if_true, if_false, List.getD_cons_zero, List.getD_cons_succ, List.length_cons, List.length_nil, List.mem_cons, List.not_mem_nil, List.mem_append, List.nil_append, List.cons_append, List.append_nil, List.take_succ_cons, List.take_zero, List.drop_succ_cons, List.drop_zero, List.set_cons_zero, List.set_cons_succ, List.map_cons, List.map_nil, implies_true, forall_const, ne_eq, htn, encN_kids, hjd, encN_length]
    rw [← j4]
    exact fpost_pure (σ0 := σ.put t (.tok 47 ys.length)) (.inr rfl) (by rw [hnx]; exact Nat.le_refl _) (hwf.put htl (show (Ob.tok _ _).lt _ from trivial)) (((Ext.refl _).new _).sub (hwf.put htl (show (Ob.tok _ _).lt _ from trivial))) rfl trivial ⟨htl, map_stp_lt _ _⟩ ⟨rfl, rfl⟩

end Go.Hl
