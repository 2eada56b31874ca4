/-
  The reference: Path.
-/
import Derived.Test.YtlaljehmcacmjaaTrAh
import Derived.Test.YtlaljehmcacmjaaTrT
set_option linter.unusedSectionVars false
set_option linter.unusedVariables false
set_option linter.unusedSimpArgs false
set_option maxRecDepth 100000
namespace Go.Hl
open Go Go.Proofs

mutual
theorem pthN_len (z : Int) : ∀ n : Nd, (pthN z n).length ≤ cntN n
  | .mk k g t a ks => by
    have := pthNs_len z ks
    simp only [pthN, cntN, List.length_cons]
    omega
theorem pthNs_len (z : Int) : ∀ ks : List Nd, (pthNs z ks).length ≤ cntNs ks
  | [] => by simp [pthNs]
  | x :: xs => by
    have h1 := pthN_len z x
    have h2 := pthNs_len z xs
    simp only [pthNs, cntNs]
    split <;> omega
end

def rpathN (z : Int) (n : Nd) : List Int := if hasN z n then pthN z n else []
theorem rpathN_len (z : Int) (n : Nd) : (rpathN z n).length ≤ cntN n := by
  unfold rpathN
  split
  · exact pthN_len z n
  · simp

structure RwS where
  j : Nat

set_option maxHeartbeats 1000000 in
theorem rpath_calls : ∀ (sz : Nat) (n : Nd), cntN n ≤ sz → sz ≤ 1099511627776 → ∀ (z : Int) (σ : St), HCalls Try.prog 19 [.agg (encN n), .int .i64 z] σ (fun d σ' => d = .slice .no 1 (encK (rpathN z n)) ∧ σ' = σ) := by
  intro sz
  induction sz with
  | zero => intro n hn; have := cntN_pos n; omega
  | succ sz ih =>
  intro n hn hsz z σ
  refine hcalls_body (fn := Try.f19) rfl c19 (by simp [h19]) (by simp [h19, Try.f19]) ?_
  intro M hP hr hnt hnx hwf hlt
  simp only [h19, argEnv]
  have hks := cntN_kids n
  have hkl := kids_le n.kids
  have hsub : Ext σ (σ.new (.box (encN n))) := (Ext.refl σ).new _
  have fin : ∀ (e : Env), rpathN z n = [] → look e 4 = .slice .nil 0 [] → FPost M.gS.next [HR.tmp 4] (fun d σ' => d = .slice .no 1 (encK (rpathN z n)) ∧ σ' = σ) .ret e (σ.new (.box (encN n))) := fun e hp h4 => by
    rw [hp]
    exact fpost_wk (σ0 := σ) (ds := [.slice .nil 0 []]) (d := .slice .no 1 []) .nil (.inr rfl) (by rw [hnx]; exact Nat.le_refl _) hwf (hsub.sub hwf) (by simp -implicitDefEqProofs (maxSteps := 1000000) only [simpS, ↓condJ_true, ↓condJ_false, ↓reduceIte, Nat.reduceEqDiff, Nat.reduceLT, Nat.reduceLeDiff, reduceCtorEq, Nat.reduceAdd, Nat.reduceSub, Option.map_some, if_true, if_false, List.getD_cons_zero, List.getD_cons_succ, List.length_cons, List.length_nil, List.mem_cons, List.not_mem_nil, List.mem_append, List.nil_append, List.cons_append, List.append_nil, List.take_succ_cons, List.take_zero, List.drop_succ_cons, List.drop_zero, List.set_cons_zero, List.set_cons_succ, List.map_cons, List.map_nil, implies_true, forall_const, ne_eq, resD_e1, resD_e2, resD_e3, h4]) trivial ⟨trivial, trivial⟩ ⟨rfl, rfl⟩
  refine hgo_sound 40 ?_
  simp -implicitDefEqProofs (maxSteps := 1000000) only [simpS, ↓condJ_true, ↓condJ_false, ↓reduceIte, Nat.reduceEqDiff, Nat.reduceLT, Nat.reduceLeDiff, reduceCtorEq, Nat.reduceAdd, Nat.reduceSub, Option.map_some, if_true, if_false, List.getD_cons_zero, List.getD_cons_succ, List.length_cons, List.length_nil, List.mem_cons, List.not_mem_nil, List.mem_append, List.nil_append, List.cons_append, List.append_nil, List.take_succ_cons, List.take_zero, List.drop_succ_cons, List.drop_zero, List.set_cons_zero, List.set_cons_succ, List.map_cons, List.map_nil, implies_true, forall_const, ne_eq, encN_length, encN_take]
  refine hx_call (f := .fn 15) rfl (by rw [hP]; exact hcallD_func (rspan_calls n (by omega) _)) ?_
  rintro _ σ2 ⟨rfl, h⟩
  subst σ2
  rw [← spanN_eq]
  cases h1 : (spanN n).ok
  · refine hgo_sound 60 ?_
    simp -implicitDefEqProofs (maxSteps := 1000000) only [simpS, ↓condJ_true, ↓condJ_false, ↓reduceIte, Nat.reduceEqDiff, Nat.reduceLT, Nat.reduceLeDiff, reduceCtorEq, Nat.reduceAdd, Nat.reduceSub, Option.map_some, if_true, if_false, List.getD_cons_zero, List.getD_cons_succ, List.length_cons, List.length_nil, List.mem_cons, List.not_mem_nil, List.mem_append, List.nil_append, List.cons_append, List.append_nil, List.take_succ_cons, List.take_zero, List.drop_succ_cons, List.drop_zero, List.set_cons_zero, List.set_cons_succ, List.map_cons, List.map_nil, implies_true, forall_const, ne_eq]
    exact fin _ (by simp [rpathN, hasN, h1]) rfl
  by_cases h2 : z < (spanN n).a
  · have d2 : decide (z < (spanN n).a) = true := by simp [h2]
    refine hgo_sound 60 ?_
    simp -implicitDefEqProofs (maxSteps := 1000000) only [simpS, ↓condJ_true, ↓condJ_false, ↓reduceIte, Nat.reduceEqDiff, Nat.reduceLT, Nat.reduceLeDiff, reduceCtorEq, Nat.reduceAdd, Nat.reduceSub, Option.map_some, if_true, if_false, List.getD_cons_zero, List.getD_cons_succ, List.length_cons, List.length_nil, List.mem_cons, List.not_mem_nil, List.mem_append, List.nil_append, List.cons_append, List.append_nil, List.take_succ_cons, List.take_zero, List.drop_succ_cons, List.drop_zero, List.set_cons_zero, List.set_cons_succ, List.map_cons, List.map_nil, implies_true, forall_const, ne_eq, d2]
    exact fin _ (by simp [rpathN, hasN, h1]; omega) rfl
  by_cases h3 : z ≥ (spanN n).b
  · have d2 : decide (z < (spanN n).a) = false := by simp; omega
    have d3 : decide (z ≥ (spanN n).b) = true := by simp; omega
    refine hgo_sound 60 ?_
    simp -implicitDefEqProofs (maxSteps := 1000000) only [simpS, ↓condJ_true, ↓condJ_false, ↓reduceIte, Nat.reduceEqDiff, Nat.reduceLT, Nat.reduceLeDiff, reduceCtorEq, Nat.reduceAdd, Nat.reduceSub, Option.map_some, if_true, if_false, List.getD_cons_zero, List.getD_cons_succ, List.length_cons, List.length_nil, List.mem_cons, List.not_mem_nil, List.mem_append, List.nil_append, List.cons_append, List.append_nil, List.take_succ_cons, List.take_zero, List.drop_succ_cons, List.drop_zero, List.set_cons_zero, List.set_cons_succ, List.map_cons, List.map_nil, implies_true, forall_const, ne_eq, d2, d3]
    exact fin _ (by simp [rpathN, hasN, h1]; omega) rfl
  have d2 : decide (z < (spanN n).a) = false := by simp; omega
  have d3 : decide (z ≥ (spanN n).b) = false := by simp; omega
  have hp : rpathN z n = n.kind :: pthNs z n.kids := by
    have : hasN z n = true := by simp [hasN, h1]; omega
    simp [rpathN, this, pthN_eq]
  refine hgo_sound 60 ?_
  simp -implicitDefEqProofs (maxSteps := 1000000) only [simpS, ↓condJ_true, ↓condJ_false, ↓reduceIte, Nat.reduceEqDiff, Nat.reduceLT, Nat.reduceLeDiff, reduceCtorEq, Nat.reduceAdd, Nat.reduceSub, Option.map_some, if_true, if_false, List.getD_cons_zero, List.getD_cons_succ, List.length_cons, List.length_nil, List.mem_cons, List.not_mem_nil, List.mem_append, List.nil_append, List.cons_append, List.append_nil, List.take_succ_cons, List.take_zero, List.drop_succ_cons, List.drop_zero, List.set_cons_zero, List.set_cons_succ, List.map_cons, List.map_nil, implies_true, forall_const, ne_eq, d2, d3, encN_length, encN_take, encN_kind, Nat.reduceMul]
  refine hx_know_code fun hw hl1 hn1 => ?_
  refine hx_loop (S := RwS) (fun s => [(1, .int .i64 z), (2, .ptr σ.next 0), (8, .slice .full 1 [[.int .i64 n.kind]]), (9, .int .i64 s.j)]) (fun _ => σ.new (.box (encN n)))
    (fun s => s.j ≤ n.kids.length ∧ pthNs z (n.kids.drop s.j) = pthNs z n.kids) (fun s => n.kids.length - s.j) ⟨0⟩
    ⟨Nat.zero_le _, rfl⟩ (fun _ _ h => by rw [hr] at h; cases h) ?_ ?_
  · exact Drop.all hw hn1 ⟨⟨rfl, trivial⟩, ⟨rfl, Nat.lt_succ_self _⟩, ⟨rfl, ⟨trivial, ⟨⟨trivial, trivial⟩, trivial⟩⟩⟩, ⟨rfl, trivial⟩, trivial⟩
  rintro ⟨j⟩ ⟨j1, j4⟩
  simp only at j1 j4 ⊢
  have hjc : ((j : Int) < ((encNs n.kids).length : Int)) = (j < n.kids.length) := by rw [encNs_length]; simp
  by_cases hj : j < n.kids.length
  · have hjd : decide (((j : Nat) : Int) < ((encNs n.kids).length : Int)) = true := by simp [hjc, hj]
    have hjp : ((j : Int) < ((encNs n.kids).length : Int)) := by rw [encNs_length]; omega
    have hget : (encNs n.kids).getD j [] = encN n.kids[j] := encNs_get hj
    have hd1 : n.kids.drop j = n.kids[j] :: n.kids.drop (j + 1) := List.drop_eq_getElem_cons hj
    have hcm := cntN_mem (List.getElem_mem hj)
    rw [hd1] at j4
    simp only [pthNs] at j4
    have hwr : IntKind.i64.wrap ((j : Int) + 1) = ((j + 1 : Nat) : Int) := by rw [IntWalk.i64_in _ (by omega)]; rfl
    refine hgo_sound 60 ?_
    simp -implicitDefEqProofs (maxSteps := 1000000) only [simpS, ↓condJ_true, ↓condJ_false, ↓reduceIte, Nat.reduceEqDiff, Nat.reduceLT, Nat.reduceLeDiff, reduceCtorEq, Nat.reduceAdd, Nat.reduceSub, Option.map_some, if_true, if_false, List.getD_cons_zero, List.getD_cons_succ, List.length_cons, List.length_nil, List.mem_cons, List.not_mem_nil, List.mem_append, List.nil_append, List.cons_append, List.append_nil, List.take_succ_cons, List.take_zero, List.drop_succ_cons, List.drop_zero, List.set_cons_zero, List.set_cons_succ, List.map_cons, List.map_nil, implies_true, forall_const, ne_eq, hjd, hjp, Int.toNat_natCast, Int.natCast_nonneg, hget, encN_length, encN_take, encN_kids]
    refine hx_call (f := .fn 19) rfl (by rw [hP]; exact hcallD_func (ih n.kids[j] (by omega) (by omega) z _)) ?_
    rintro _ σ2 ⟨rfl, h⟩
    subst σ2
    have hrl := rpathN_len z n.kids[j]
    by_cases he : hasN z n.kids[j] = true
    · rw [if_pos he] at j4
      have hrp : rpathN z n.kids[j] = pthN z n.kids[j] := if_pos he
      have hpos : 0 < (rpathN z n.kids[j]).length := by rw [hrp, pthN_eq]; simp
      have hd : decide (((rpathN z n.kids[j]).length : Int) > 0) = true := by simp; omega
      have hb1 : (1 + (rpathN z n.kids[j]).length) * 8 ≤ 140737488355328 := by omega
      have hb2 : 1 + (rpathN z n.kids[j]).length ≤ 9223372036854775807 := by omega
      refine hgo_sound 60 ?_
      simp -implicitDefEqProofs (maxSteps := 1000000) only [simpS, ↓condJ_true, ↓condJ_false, ↓reduceIte, Nat.reduceEqDiff, Nat.reduceLT, Nat.reduceLeDiff, reduceCtorEq, Nat.reduceAdd, Nat.reduceSub, Option.map_some, if_true, if_false, List.getD_cons_zero, List.getD_cons_succ, List.length_cons, List.length_nil, List.mem_cons, List.not_mem_nil, List.mem_append, List.nil_append, List.cons_append, List.append_nil, List.take_succ_cons, List.take_zero, List.drop_succ_cons, List.drop_zero, List.set_cons_zero, List.set_cons_succ, List.map_cons, List.map_nil, implies_true, forall_const, ne_eq, encK_length, hd, hb1, hb2]
      rw [hp, ← j4, ← hrp]
      exact fpost_pure (σ0 := σ) (.inr rfl) (by rw [hnx]; exact Nat.le_refl _) hwf (hsub.sub hwf) rfl trivial ⟨trivial, ⟨⟨trivial, trivial⟩, encK_lt _ _⟩⟩ ⟨rfl, rfl⟩
    · rw [if_neg he] at j4
      have hrp : rpathN z n.kids[j] = [] := if_neg he
      rw [hrp]
      have hd : decide ((0 : Int) > 0) = false := rfl
      have hk0 : encK [] = [] := rfl
      refine hgo_sound 60 ?_
      simp -implicitDefEqProofs (maxSteps := 1000000) only [simpS, ↓condJ_true, ↓condJ_false, ↓reduceIte, Nat.reduceEqDiff, Nat.reduceLT, Nat.reduceLeDiff, reduceCtorEq, Nat.reduceAdd, Nat.reduceSub, Option.map_some, if_true, if_false, List.getD_cons_zero, List.getD_cons_succ, List.length_cons, List.length_nil, List.mem_cons, List.not_mem_nil, List.mem_append, List.nil_append, List.cons_append, List.append_nil, List.take_succ_cons, List.take_zero, List.drop_succ_cons, List.drop_zero, List.set_cons_zero, List.set_cons_succ, List.map_cons, List.map_nil, implies_true, forall_const, ne_eq, hk0, hwr, Int.ofNat_eq_natCast, Int.natCast_zero, hd]
      intro hw2 hl2 hn2
      refine ⟨⟨j + 1⟩, ⟨by simp only; omega, j4⟩, by simp only; omega, ?_⟩
      exact Drop.all hw2 hn2 ⟨⟨rfl, trivial⟩, ⟨rfl, Nat.lt_succ_self _⟩, ⟨rfl, ⟨trivial, ⟨⟨trivial, trivial⟩, trivial⟩⟩⟩, ⟨rfl, trivial⟩, trivial⟩
  · have hjd : decide (((j : Nat) : Int) < ((encNs n.kids).length : Int)) = false := by simp [hjc, hj]
    have hd1 : n.kids.drop j = [] := List.drop_eq_nil_of_le (by omega)
    rw [hd1] at j4
    refine hgo_sound 60 ?_
    simp -implicitDefEqProofs (maxSteps := 1000000) only [simpS, ↓condJ_true, ↓condJ_false, ↓reduceIte, Nat.reduceEqDiff, Nat.reduceLT, Nat.reduceLeDiff, reduceCtorEq, Nat.reduceAdd, Nat.reduceSub, Option.map_some, if_true, if_false, List.getD_cons_zero, List.getD_cons_succ, List.length_cons, List.length_nil, List.mem_cons, List.not_mem_nil, List.mem_append, List.nil_append, List.cons_append, List.append_nil, List.take_succ_cons, List.take_zero, List.drop_succ_cons, List.drop_zero, List.set_cons_zero, List.set_cons_succ, List.map_cons, List.map_nil, implies_true, forall_const, ne_eq, hjd, encN_kids, encN_length, encN_take]
    rw [hp, ← j4]
    exact fpost_strip (σ0 := σ) (ds := [.slice .full 1 [[.int .i64 n.kind]]]) (Wk.refl _) (.inr rfl) (by rw [hnx]; exact Nat.le_refl _) hwf (hsub.sub hwf) rfl trivial (by simp only [tupD, frzD, if_true, D.lt, Own.lt]; exact ⟨trivial, ⟨⟨trivial, trivial⟩, trivial⟩⟩) ⟨rfl, rfl⟩

end Go.Hl
