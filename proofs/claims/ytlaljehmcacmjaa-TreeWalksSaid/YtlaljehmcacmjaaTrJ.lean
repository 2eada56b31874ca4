/-
  The reference: Text, Stands, Span.
-/
import Derived.Test.YtlaljehmcacmjaaTrI
import Derived.Test.YtlaljehmcacmjaaTrK
set_option linter.unusedSectionVars false
set_option linter.unusedVariables false
set_option linter.unusedSimpArgs false
set_option maxRecDepth 100000
namespace Go.Hl
open Go Go.Proofs

structure TxS where
  j : Nat
  s : ByteArray

theorem rtext_calls (n : Nd) (hn : cntN n ≤ 1099511627776) (htl : textLen (leavesL (preN 0 n)) ≤ 1099511627776) (σ : St) : HCalls Try.prog 16 [.agg (encN n)] σ (fun d σ' => d = .str (textL (leavesL (preN 0 n))) ∧ σ' = σ) := by
  refine hcalls_body (fn := Try.f16) rfl c16 (by simp [h16]) (by simp [h16, Try.f16]) ?_
  intro M hP hr hnt hnx hwf hlt
  have hnt' : M.nt = 28 := hnt
  simp only [h16, argEnv]
  refine hgo_sound 40 ?_
  simp -implicitDefEqProofs (maxSteps := 1000000) only [simpS, ↓condJ_true, ↓condJ_false, ↓reduceIte, Nat.reduceEqDiff, Nat.reduceLT, Nat.reduceLeDiff, reduceCtorEq, Nat.reduceAdd, Nat.reduceSub, Option.map_some, if_true, if_false, List.getD_cons_zero, List.getD_cons_succ, List.length_cons, List.length_nil, List.mem_cons, List.not_mem_nil, List.mem_append, List.nil_append, List.cons_append, List.append_nil, List.take_succ_cons, List.take_zero, List.drop_succ_cons, List.drop_zero, List.set_cons_zero, List.set_cons_succ, List.map_cons, List.map_nil, implies_true, forall_const, ne_eq, encN_length, encN_take]
  refine hx_call (f := .fn 39) rfl (by rw [hP]; exact hcallD_func (rleaves_calls n hn _)) ?_
  rintro _ _ ⟨rfl, rfl⟩
  have hll := leavesL_len (preN 0 n)
  have hwalk := preN_len 0 n
  generalize leavesL (preN 0 n) = L at *
  refine hgo_sound 40 ?_
  simp -implicitDefEqProofs (maxSteps := 1000000) only [simpS, ↓condJ_true, ↓condJ_false, ↓reduceIte, Nat.reduceEqDiff, Nat.reduceLT, Nat.reduceLeDiff, reduceCtorEq, Nat.reduceAdd, Nat.reduceSub, Option.map_some, if_true, if_false, List.getD_cons_zero, List.getD_cons_succ, List.length_cons, List.length_nil, List.mem_cons, List.not_mem_nil, List.mem_append, List.nil_append, List.cons_append, List.append_nil, List.take_succ_cons, List.take_zero, List.drop_succ_cons, List.drop_zero, List.set_cons_zero, List.set_cons_succ, List.map_cons, List.map_nil, implies_true, forall_const, ne_eq]
  refine hx_know_code fun hw hl hn1 => ?_
  refine hx_loop (S := TxS) (fun s => [(3, .str s.s), (4, .slice .no 5 (encNs L)), (5, .int .i64 s.j)]) (fun s => σ.new (.box (encN n)))
    (fun s => s.j ≤ L.length ∧ s.s ++ textL (L.drop s.j) = textL L) (fun s => L.length - s.j) ⟨0, ⟨#[]⟩⟩
    ⟨Nat.zero_le _, by simp only [List.drop_zero]; exact ByteArray.empty_append⟩ (fun _ _ h => by rw [hr] at h; cases h) ?_ ?_
  · exact Drop.all hw (by rw [hnx]; exact Nat.le_succ _) ⟨⟨rfl, trivial⟩, ⟨rfl, ⟨trivial, encNs_lt _ _⟩⟩, ⟨rfl, trivial⟩, trivial⟩
  rintro ⟨j, s⟩ ⟨j1, j4⟩
  simp only at j1 j4 ⊢
  have hjc : ((j : Int) < ((encNs L).length : Int)) = (j < L.length) := by rw [encNs_length]; simp
  by_cases hj : j < L.length
  · have hjd : decide (((j : Nat) : Int) < ((encNs L).length : Int)) = true := by simp [hjc, hj]
    have hjp : ((j : Int) < ((encNs L).length : Int)) := by rw [encNs_length]; omega
    have hget := encNs_get hj
    have hdrop : L.drop j = L[j] :: L.drop (j + 1) := List.drop_eq_getElem_cons hj
    rw [hdrop] at j4
    generalize hx : L[j] = x at *
    simp only [textL] at j4
    have hwr : IntKind.i64.wrap ((j : Int) + 1) = ((j + 1 : Nat) : Int) := by rw [IntWalk.i64_in _ (by omega)]; rfl
    refine hgo_sound 60 ?_
    simp -implicitDefEqProofs (maxSteps := 1000000) only [simpS, ↓condJ_true, ↓condJ_false, ↓reduceIte, Nat.reduceEqDiff, Nat.reduceLT, Nat.reduceLeDiff, reduceCtorEq, Nat.reduceAdd, Nat.reduceSub, Option.map_some, if_true, if_false, List.getD_cons_zero, List.getD_cons_succ, List.length_cons, List.length_nil, List.mem_cons, List.not_mem_nil, List.mem_append, List.nil_append, List.cons_append, List.append_nil, List.take_succ_cons, List.take_zero, List.drop_succ_cons, List.drop_zero, List.set_cons_zero, List.set_cons_succ, List.map_cons, List.map_nil, implies_true, forall_const, ne_eq, hjd, hjp]
    have hsz := congrArg ByteArray.size j4
    simp only [ByteArray.size_append, textL_size] at hsz
    refine hx_drawgo 40 ?_
    simp -implicitDefEqProofs only [drawS, List.map_cons, List.map_nil, List.getElem?_cons_zero, List.getElem?_cons_succ, List.getElem?_nil, simpS, ↓condJ_true, ↓condJ_false, ↓reduceIte, Nat.reduceEqDiff, Nat.reduceLT, Nat.reduceLeDiff, reduceCtorEq, Nat.reduceAdd, Nat.reduceSub, Option.map_some, if_true, if_false, List.getD_cons_zero, List.getD_cons_succ, List.length_cons, List.length_nil, List.mem_cons, List.not_mem_nil, List.mem_append, List.nil_append, List.cons_append, List.append_nil, List.take_succ_cons, List.take_zero, List.drop_succ_cons, List.drop_zero, List.set_cons_zero, List.set_cons_succ, List.map_cons, List.map_nil, implies_true, forall_const, ne_eq, hnt', hjp, Int.toNat_natCast, Int.natCast_nonneg, hget, encN_length, encN_gap, encN_text]
    refine ⟨⟨by omega, by rw [ByteArray.size_append]; omega⟩, ?_⟩
    refine hgo_sound 60 ?_
    simp -implicitDefEqProofs (maxSteps := 1000000) only [simpS, ↓condJ_true, ↓condJ_false, ↓reduceIte, Nat.reduceEqDiff, Nat.reduceLT, Nat.reduceLeDiff, reduceCtorEq, Nat.reduceAdd, Nat.reduceSub, Option.map_some, if_true, if_false, List.getD_cons_zero, List.getD_cons_succ, List.length_cons, List.length_nil, List.mem_cons, List.not_mem_nil, List.mem_append, List.nil_append, List.cons_append, List.append_nil, List.take_succ_cons, List.take_zero, List.drop_succ_cons, List.drop_zero, List.set_cons_zero, List.set_cons_succ, List.map_cons, List.map_nil, implies_true, forall_const, ne_eq, hwr]
    intro hw2 hl2 hn2
    refine ⟨⟨j + 1, s ++ x.gap ++ x.text⟩, ⟨by simp only; omega, by simp only [ByteArray.append_assoc] at j4 ⊢; exact j4⟩, by simp only; omega, ?_⟩
    exact Drop.all hw2 hn2 ⟨⟨rfl, trivial⟩, ⟨rfl, ⟨trivial, encNs_lt _ _⟩⟩, ⟨rfl, trivial⟩, trivial⟩
  · have hjd : decide (((j : Nat) : Int) < ((encNs L).length : Int)) = false := by simp [hjc, hj]
    have hdrop : L.drop j = [] := List.drop_eq_nil_of_le (by omega)
    rw [hdrop] at j4
    simp only [textL] at j4
    rw [show s ++ (⟨#[]⟩ : ByteArray) = s from ByteArray.append_empty] at j4
    refine hgo_sound 60 ?_
    simp -implicitDefEqProofs (maxSteps := 1000000) only [simpS, ↓condJ_true, ↓condJ_false, ↓reduceIte, Nat.reduceEqDiff, Nat.reduceLT, Nat.reduceLeDiff, reduceCtorEq, Nat.reduceAdd, Nat.reduceSub, Option.map_some, if_true, if_false, List.getD_cons_zero, List.getD_cons_succ, List.length_cons, List.length_nil, List.mem_cons, List.not_mem_nil, List.mem_append, List.nil_append, List.cons_append, List.append_nil, List.take_succ_cons, List.take_zero, List.drop_succ_cons, List.drop_zero, List.set_cons_zero, List.set_cons_succ, List.map_cons, List.map_nil, implies_true, forall_const, ne_eq, hjd]
    rw [← j4]
    exact fpost_pure (σ0 := σ) (.inr rfl) (by rw [hnx]; exact Nat.le_refl _) hwf (((Ext.refl σ).new _).sub hwf) rfl trivial trivial ⟨rfl, rfl⟩

def rStandL (z : Int) : List Nd → Int → Bool
  | [], _ => true
  | x :: xs, a => if IntKind.i64.wrap (x.at_ - IntKind.i64.wrap (a + x.gap.size)) = z then rStandL z xs (IntKind.i64.wrap (IntKind.i64.wrap (a + x.gap.size) + x.text.size)) else false

structure RsS where
  j : Nat
  a : Int

theorem rstands_calls (n : Nd) (hn : cntN n ≤ 1099511627776) (z : Int) (σ : St) : HCalls Try.prog 17 [.agg (encN n), .int .i64 z] σ (fun d σ' => d = .bool (rStandL z (leavesL (preN 0 n)) 0) ∧ σ' = σ) := by
  refine hcalls_body (fn := Try.f17) rfl c17 (by simp [h17]) (by simp [h17, Try.f17]) ?_
  intro M hP hr hnt hnx hwf hlt
  simp only [h17, argEnv]
  refine hgo_sound 40 ?_
  simp -implicitDefEqProofs (maxSteps := 1000000) only [simpS, ↓condJ_true, ↓condJ_false, ↓reduceIte, Nat.reduceEqDiff, Nat.reduceLT, Nat.reduceLeDiff, reduceCtorEq, Nat.reduceAdd, Nat.reduceSub, Option.map_some, if_true, if_false, List.getD_cons_zero, List.getD_cons_succ, List.length_cons, List.length_nil, List.mem_cons, List.not_mem_nil, List.mem_append, List.nil_append, List.cons_append, List.append_nil, List.take_succ_cons, List.take_zero, List.drop_succ_cons, List.drop_zero, List.set_cons_zero, List.set_cons_succ, List.map_cons, List.map_nil, implies_true, forall_const, ne_eq, encN_length, encN_take]
  refine hx_call (f := .fn 39) rfl (by rw [hP]; exact hcallD_func (rleaves_calls n hn _)) ?_
  rintro _ _ ⟨rfl, rfl⟩
  have hll := leavesL_len (preN 0 n)
  have hwalk := preN_len 0 n
  generalize leavesL (preN 0 n) = L at *
  refine hgo_sound 40 ?_
  simp -implicitDefEqProofs (maxSteps := 1000000) only [simpS, ↓condJ_true, ↓condJ_false, ↓reduceIte, Nat.reduceEqDiff, Nat.reduceLT, Nat.reduceLeDiff, reduceCtorEq, Nat.reduceAdd, Nat.reduceSub, Option.map_some, if_true, if_false, List.getD_cons_zero, List.getD_cons_succ, List.length_cons, List.length_nil, List.mem_cons, List.not_mem_nil, List.mem_append, List.nil_append, List.cons_append, List.append_nil, List.take_succ_cons, List.take_zero, List.drop_succ_cons, List.drop_zero, List.set_cons_zero, List.set_cons_succ, List.map_cons, List.map_nil, implies_true, forall_const, ne_eq]
  refine hx_know_code fun hw hl hn1 => ?_
  refine hx_loop (S := RsS) (fun s => [(1, .int .i64 z), (5, .int .i64 s.a), (6, .slice .no 5 (encNs L)), (7, .int .i64 s.j)]) (fun s => σ.new (.box (encN n)))
    (fun s => s.j ≤ L.length ∧ rStandL z (L.drop s.j) s.a = rStandL z L 0) (fun s => L.length - s.j) ⟨0, 0⟩
    ⟨Nat.zero_le _, rfl⟩ (fun _ _ h => by rw [hr] at h; cases h) ?_ ?_
  · exact Drop.all hw (by rw [hnx]; exact Nat.le_succ _) ⟨⟨rfl, trivial⟩, ⟨rfl, trivial⟩, ⟨rfl, ⟨trivial, encNs_lt _ _⟩⟩, ⟨rfl, trivial⟩, trivial⟩
  rintro ⟨j, a⟩ ⟨j1, j4⟩
  simp only at j1 j4 ⊢
  have hjc : ((j : Int) < ((encNs L).length : Int)) = (j < L.length) := by rw [encNs_length]; simp
  by_cases hj : j < L.length
  · have hjd : decide (((j : Nat) : Int) < ((encNs L).length : Int)) = true := by simp [hjc, hj]
    have hjp : ((j : Int) < ((encNs L).length : Int)) := by rw [encNs_length]; omega
    have hget := encNs_get hj
    have hdrop : L.drop j = L[j] :: L.drop (j + 1) := List.drop_eq_getElem_cons hj
    rw [hdrop] at j4
    generalize hx : L[j] = x at *
    simp only [rStandL] at j4
    have hwr : IntKind.i64.wrap ((j : Int) + 1) = ((j + 1 : Nat) : Int) := by rw [IntWalk.i64_in _ (by omega)]; rfl
    refine hgo_sound 90 ?_
    simp -implicitDefEqProofs (maxSteps := 1000000) only [simpS, ↓condJ_true, ↓condJ_false, ↓reduceIte, Nat.reduceEqDiff, Nat.reduceLT, Nat.reduceLeDiff, reduceCtorEq, Nat.reduceAdd, Nat.reduceSub, Option.map_some, if_true, if_false, List.getD_cons_zero, List.getD_cons_succ, List.length_cons, List.length_nil, List.mem_cons, List.not_mem_nil, List.mem_append, List.nil_append, List.cons_append, List.append_nil, List.take_succ_cons, List.take_zero, List.drop_succ_cons, List.drop_zero, List.set_cons_zero, List.set_cons_succ, List.map_cons, List.map_nil, implies_true, forall_const, ne_eq, hjd, hjp, Int.toNat_natCast, Int.natCast_nonneg, hget, encN_length, encN_gap, encN_text, encN_at, hwr]
    by_cases hk : IntKind.i64.wrap (x.at_ - IntKind.i64.wrap (a + x.gap.size)) = z
    · have hk1 : (IntKind.i64.wrap (x.at_ - IntKind.i64.wrap (a + x.gap.size)) != z) = false := by simp [hk]
      rw [if_pos hk] at j4
      rw [hk1]
      refine ⟨fun h => (by cases h), fun _ hw2 hl2 hn2 => ?_⟩
      refine ⟨⟨j + 1, _⟩, ⟨by simp only; omega, j4⟩, by simp only; omega, ?_⟩
      exact Drop.all hw2 hn2 ⟨⟨rfl, trivial⟩, ⟨rfl, trivial⟩, ⟨rfl, ⟨trivial, encNs_lt _ _⟩⟩, ⟨rfl, trivial⟩, trivial⟩
    · have hk1 : (IntKind.i64.wrap (x.at_ - IntKind.i64.wrap (a + x.gap.size)) != z) = true := by simp [hk]
      rw [if_neg hk] at j4
      rw [hk1]
      refine ⟨fun _ => ?_, fun h => (by cases h)⟩
      rw [← j4]
      exact fpost_pure (σ0 := σ) (.inr rfl) (by rw [hnx]; exact Nat.le_refl _) hwf (((Ext.refl σ).new _).sub hwf) rfl trivial trivial ⟨rfl, rfl⟩
  · have hjd : decide (((j : Nat) : Int) < ((encNs L).length : Int)) = false := by simp [hjc, hj]
    have hdrop : L.drop j = [] := List.drop_eq_nil_of_le (by omega)
    rw [hdrop] at j4
    simp only [rStandL] at j4
    refine hgo_sound 60 ?_
    simp -implicitDefEqProofs (maxSteps := 1000000) only [simpS, ↓condJ_true, ↓condJ_false, ↓reduceIte, Nat.reduceEqDiff, Nat.reduceLT, Nat.reduceLeDiff, reduceCtorEq, Nat.reduceAdd, Nat.reduceSub, Option.map_some, if_true, if_false, List.getD_cons_zero, List.getD_cons_succ, List.length_cons, List.length_nil, List.mem_cons, List.not_mem_nil, List.mem_append, List.nil_append, List.cons_append, List.append_nil, List.take_succ_cons, List.take_zero, List.drop_succ_cons, List.drop_zero, List.set_cons_zero, List.set_cons_succ, List.map_cons, List.map_nil, implies_true, forall_const, ne_eq, hjd]
    rw [← j4]
    exact fpost_pure (σ0 := σ) (.inr rfl) (by rw [hnx]; exact Nat.le_refl _) hwf (((Ext.refl σ).new _).sub hwf) rfl trivial trivial ⟨rfl, rfl⟩

def rSpanL (L : List Nd) : SpC :=
  match L with
  | [] => ⟨0, 0, false⟩
  | x :: xs => ⟨x.at_, IntKind.i64.wrap (((x :: xs).getLastD x).at_ + ((x :: xs).getLastD x).text.size), true⟩

theorem rspan_calls (n : Nd) (hn : cntN n ≤ 1099511627776) (σ : St) : HCalls Try.prog 15 [.agg (encN n)] σ (fun d σ' => d = .tuple [.int .i64 (rSpanL (leavesL (preN 0 n))).a, .int .i64 (rSpanL (leavesL (preN 0 n))).b, .bool (rSpanL (leavesL (preN 0 n))).ok] ∧ σ' = σ) := by
  refine hcalls_body (fn := Try.f15) rfl c15 (by simp [h15]) (by simp [h15, Try.f15]) ?_
  intro M hP hr hnt hnx hwf hlt
  have hnt' : M.nt = 28 := hnt
  simp only [h15, argEnv]
  refine hgo_sound 40 ?_
  simp -implicitDefEqProofs (maxSteps := 1000000) only [simpS, ↓condJ_true, ↓condJ_false, ↓reduceIte, Nat.reduceEqDiff, Nat.reduceLT, Nat.reduceLeDiff, reduceCtorEq, Nat.reduceAdd, Nat.reduceSub, Option.map_some, if_true, if_false, List.getD_cons_zero, List.getD_cons_succ, List.length_cons, List.length_nil, List.mem_cons, List.not_mem_nil, List.mem_append, List.nil_append, List.cons_append, List.append_nil, List.take_succ_cons, List.take_zero, List.drop_succ_cons, List.drop_zero, List.set_cons_zero, List.set_cons_succ, List.map_cons, List.map_nil, implies_true, forall_const, ne_eq, encN_length, encN_take]
  refine hx_call (f := .fn 39) rfl (by rw [hP]; exact hcallD_func (rleaves_calls n hn _)) ?_
  rintro _ _ ⟨rfl, rfl⟩
  have hll := leavesL_len (preN 0 n)
  have hwalk := preN_len 0 n
  generalize leavesL (preN 0 n) = L at *
  cases L with
  | nil =>
    refine hgo_sound 40 ?_
    simp only [encNs]
    simp -implicitDefEqProofs (maxSteps := 1000000) only [simpS, ↓condJ_true, ↓condJ_false, ↓reduceIte, Nat.reduceEqDiff, Nat.reduceLT, Nat.reduceLeDiff, reduceCtorEq, Nat.reduceAdd, Nat.reduceSub, Option.map_some, if_true, if_false, List.getD_cons_zero, List.getD_cons_succ, List.length_cons, List.length_nil, List.mem_cons, List.not_mem_nil, List.mem_append, List.nil_append, List.cons_append, List.append_nil, List.take_succ_cons, List.take_zero, List.drop_succ_cons, List.drop_zero, List.set_cons_zero, List.set_cons_succ, List.map_cons, List.map_nil, implies_true, forall_const, ne_eq]
    refine ⟨fun _ => ?_, fun h => (by simp at h)⟩
    exact fpost_pure (σ0 := σ) (.inr rfl) (by rw [hnx]; exact Nat.le_refl _) hwf (((Ext.refl σ).new _).sub hwf) rfl trivial ⟨trivial, trivial, trivial, trivial⟩ ⟨rfl, rfl⟩
  | cons x xs =>
    have hlz : (encNs (x :: xs)).length = xs.length + 1 := by rw [encNs_length]; rfl
    have h1 : ((((xs.length + 1 : Nat)) : Int) == 0) = false := by simp; omega
    have hw1 : IntKind.i64.wrap (((xs.length + 1 : Nat) : Int) - 1) = (xs.length : Int) := by simp only [List.length_cons] at hll; rw [IntWalk.i64_in _ (by omega)]; omega
    have hget : (encNs (x :: xs)).getD xs.length [] = encN ((x :: xs).getLastD x) := by
      rw [encNs_get (by simp)]
      congr 1
      rw [List.getLastD_eq_getLast?, List.getLast?_eq_getElem?]
      simp
    have hget0 : (encNs (x :: xs)).getD 0 [] = encN x := rfl
    have hlt1 : ((xs.length : Int) < ((xs.length + 1 : Nat) : Int)) := by omega
    have hlt2 : ((0 : Int) < ((xs.length + 1 : Nat) : Int)) := by omega
    refine hgo_sound 40 ?_
    simp -implicitDefEqProofs (maxSteps := 1000000) only [simpS, ↓condJ_true, ↓condJ_false, ↓reduceIte, Nat.reduceEqDiff, Nat.reduceLT, Nat.reduceLeDiff, reduceCtorEq, Nat.reduceAdd, Nat.reduceSub, Option.map_some, if_true, if_false, List.getD_cons_zero, List.getD_cons_succ, List.length_cons, List.length_nil, List.mem_cons, List.not_mem_nil, List.mem_append, List.nil_append, List.cons_append, List.append_nil, List.take_succ_cons, List.take_zero, List.drop_succ_cons, List.drop_zero, List.set_cons_zero, List.set_cons_succ, List.map_cons, List.map_nil, implies_true, forall_const, ne_eq, hlz, h1, hw1, Int.natCast_nonneg, hlt1, Int.toNat_natCast, hget, encN_length, encN_take]
    refine hx_drawgo 40 ?_
    simp -implicitDefEqProofs only [drawS, List.map_cons, List.map_nil, List.getElem?_cons_zero, List.getElem?_cons_succ, List.getElem?_nil, simpS, ↓condJ_true, ↓condJ_false, ↓reduceIte, Nat.reduceEqDiff, Nat.reduceLT, Nat.reduceLeDiff, reduceCtorEq, Nat.reduceAdd, Nat.reduceSub, Option.map_some, if_true, if_false, List.getD_cons_zero, List.getD_cons_succ, List.length_cons, List.length_nil, List.mem_cons, List.not_mem_nil, List.mem_append, List.nil_append, List.cons_append, List.append_nil, List.take_succ_cons, List.take_zero, List.drop_succ_cons, List.drop_zero, List.set_cons_zero, List.set_cons_succ, List.map_cons, List.map_nil, implies_true, forall_const, ne_eq, hnt', hlz, hlt2, Int.le_refl, Int.toNat_zero, hget0, encN_length, encN_at, encN_text]
    exact hx_ret (fpost_pure (σ0 := σ) (.inr rfl) (by rw [hnx]; exact Nat.le_refl _) hwf ((((Ext.refl σ).new _).new _).sub hwf) rfl trivial ⟨trivial, trivial, trivial, trivial⟩ ⟨rfl, rfl⟩)

end Go.Hl
