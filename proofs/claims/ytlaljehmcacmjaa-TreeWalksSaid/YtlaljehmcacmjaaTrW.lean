/-
  The reference: Same; the law's is.
-/
import Derived.Test.YtlaljehmcacmjaaTrQ
set_option linter.unusedSectionVars false
set_option linter.unusedVariables false
set_option linter.unusedSimpArgs false
set_option maxRecDepth 100000
namespace Go.Hl
open Go Go.Proofs

theorem rsame_calls : ∀ (sz : Nat) (n : Nd), cntN n ≤ sz → sz ≤ 1099511627776 → ∀ (m : Nd) (σ : St), HCalls Try.prog 27 [.agg (encN n), .agg (encN m)] σ (fun d σ' => d = .bool (eqN n m) ∧ σ' = σ) := by
  intro sz
  induction sz with
  | zero => intro n hn; have := cntN_pos n; omega
  | succ sz ih =>
  intro n hn hsz m σ
  refine hcalls_body (fn := Try.f27) rfl c27 (by simp [h27]) (by simp [h27, Try.f27]) ?_
  intro M hP hr hnt hnx hwf hlt
  have hnt' : M.nt = 60 := hnt
  have hks := cntN_kids n
  have hkl := kids_le n.kids
  have heq : eqN n m = ((n.kind == m.kind) && (decide (n.gap = m.gap) && (decide (n.text = m.text) && ((n.at_ == m.at_) && eqNs n.kids m.kids)))) := by cases n; rfl
  have hsub : Ext σ ((σ.new (.box (encN n))).new (.box (encN m))) := ((Ext.refl σ).new _).new _
  have hST : ((σ.new (.box (encN n))).new (.box (encN m))).wf := (hwf.box (encN_lt _ n)).box (encN_lt _ m)
  have fin : ∀ (b : Bool) (e : Env), look e 4 = .bool b → b = eqN n m → FPost M.gS.next [HR.tmp 4] (fun d σ' => d = .bool (eqN n m) ∧ σ' = σ) .ret e ((σ.new (.box (encN n))).new (.box (encN m))) := fun b e h4 hb =>
    fpost_pure (σ0 := σ) (.inr rfl) (by rw [hnx]; exact Nat.le_refl _) hwf (hsub.sub hwf) (ds := [look e 4]) (p := True) rfl trivial (by rw [h4]; trivial) ⟨by rw [← hb]; exact h4, rfl⟩
  simp only [h27, argEnv]
  cases h1 : (n.kind == m.kind)
  · have g1 : (n.kind != m.kind) = true := by rw [bne, h1]; rfl
    refine hgo_sound 60 ?_
    simp -implicitDefEqProofs (maxSteps := 1000000) only [simpS, ↓condJ_true, ↓condJ_false, ↓reduceIte, Nat.reduceEqDiff, Nat.reduceLT, Nat.reduceLeDiff, reduceCtorEq, Nat.reduceAdd, Nat.reduceSub, Option.map_some, if_true, if_false, List.getD_cons_zero, List.getD_cons_succ, List.length_cons, List.length_nil, List.mem_cons, List.not_mem_nil, List.mem_append, List.nil_append, List.cons_append, List.append_nil, List.take_succ_cons, List.take_zero, List.drop_succ_cons, List.drop_zero, List.set_cons_zero, List.set_cons_succ, List.map_cons, List.map_nil, implies_true, forall_const, ne_eq, encN_length, encN_kind, encN_gap, encN_text, encN_at, encN_kids, g1]
    exact fin false _ rfl (by rw [heq, h1]; rfl)
  have g1 : (n.kind != m.kind) = false := by rw [bne, h1]; rfl
  have bs : ∀ x y : ByteArray, (decide (¬ x = y)) = !decide (x = y) := fun x y => by by_cases h : x = y <;> simp [h]
  cases h2 : decide (n.gap = m.gap)
  · refine hgo_sound 60 ?_
    simp -implicitDefEqProofs (maxSteps := 1000000) only [simpS, ↓condJ_true, ↓condJ_false, ↓reduceIte, Nat.reduceEqDiff, Nat.reduceLT, Nat.reduceLeDiff, reduceCtorEq, Nat.reduceAdd, Nat.reduceSub, Option.map_some, if_true, if_false, List.getD_cons_zero, List.getD_cons_succ, List.length_cons, List.length_nil, List.mem_cons, List.not_mem_nil, List.mem_append, List.nil_append, List.cons_append, List.append_nil, List.take_succ_cons, List.take_zero, List.drop_succ_cons, List.drop_zero, List.set_cons_zero, List.set_cons_succ, List.map_cons, List.map_nil, implies_true, forall_const, ne_eq, encN_length, encN_kind, encN_gap, encN_text, encN_at, encN_kids, encNs_length, g1, h2, bs]
    exact fin false _ rfl (by rw [heq, h1, h2]; rfl)
  cases h3 : decide (n.text = m.text)
  · refine hgo_sound 60 ?_
    simp -implicitDefEqProofs (maxSteps := 1000000) only [simpS, ↓condJ_true, ↓condJ_false, ↓reduceIte, Nat.reduceEqDiff, Nat.reduceLT, Nat.reduceLeDiff, reduceCtorEq, Nat.reduceAdd, Nat.reduceSub, Option.map_some, if_true, if_false, List.getD_cons_zero, List.getD_cons_succ, List.length_cons, List.length_nil, List.mem_cons, List.not_mem_nil, List.mem_append, List.nil_append, List.cons_append, List.append_nil, List.take_succ_cons, List.take_zero, List.drop_succ_cons, List.drop_zero, List.set_cons_zero, List.set_cons_succ, List.map_cons, List.map_nil, implies_true, forall_const, ne_eq, encN_length, encN_kind, encN_gap, encN_text, encN_at, encN_kids, encNs_length, g1, h2, h3, bs]
    exact fin false _ rfl (by rw [heq, h1, h2, h3]; rfl)
  cases h4 : (n.at_ == m.at_)
  · have g4 : (n.at_ != m.at_) = true := by rw [bne, h4]; rfl
    refine hgo_sound 60 ?_
    simp -implicitDefEqProofs (maxSteps := 1000000) only [simpS, ↓condJ_true, ↓condJ_false, ↓reduceIte, Nat.reduceEqDiff, Nat.reduceLT, Nat.reduceLeDiff, reduceCtorEq, Nat.reduceAdd, Nat.reduceSub, Option.map_some, if_true, if_false, List.getD_cons_zero, List.getD_cons_succ, List.length_cons, List.length_nil, List.mem_cons, List.not_mem_nil, List.mem_append, List.nil_append, List.cons_append, List.append_nil, List.take_succ_cons, List.take_zero, List.drop_succ_cons, List.drop_zero, List.set_cons_zero, List.set_cons_succ, List.map_cons, List.map_nil, implies_true, forall_const, ne_eq, encN_length, encN_kind, encN_gap, encN_text, encN_at, encN_kids, encNs_length, g1, h2, h3, g4, bs]
    exact fin false _ rfl (by rw [heq, h1, h2, h3, h4]; rfl)
  have g4 : (n.at_ != m.at_) = false := by rw [bne, h4]; rfl
  have heq2 : eqN n m = eqNs n.kids m.kids := by rw [heq, h1, h2, h3, h4]; rfl
  by_cases hlen : n.kids.length = m.kids.length
  · have g5 : (((n.kids.length : Nat) : Int) != ((m.kids.length : Nat) : Int)) = false := by simp [hlen]
    refine hgo_sound 80 ?_
    simp -implicitDefEqProofs (maxSteps := 1000000) only [simpS, ↓condJ_true, ↓condJ_false, ↓reduceIte, Nat.reduceEqDiff, Nat.reduceLT, Nat.reduceLeDiff, reduceCtorEq, Nat.reduceAdd, Nat.reduceSub, Option.map_some, if_true, if_false, List.getD_cons_zero, List.getD_cons_succ, List.length_cons, List.length_nil, List.mem_cons, List.not_mem_nil, List.mem_append, List.nil_append, List.cons_append, List.append_nil, List.take_succ_cons, List.take_zero, List.drop_succ_cons, List.drop_zero, List.set_cons_zero, List.set_cons_succ, List.map_cons, List.map_nil, implies_true, forall_const, ne_eq, encN_length, encN_kind, encN_gap, encN_text, encN_at, encN_kids, encNs_length, g1, h2, h3, g4, g5, bs]
    refine hx_know_code fun hw hl1 hn1 => ?_
    refine hx_loop (S := EqS) (fun s => [(2, .ptr σ.next 0), (3, .ptr (σ.next + 1) 0), (5, .int .i64 s.j)]) (fun s => (σ.new (.box (encN n))).new (.box (encN m)))
      (fun s => s.j ≤ n.kids.length ∧ eqNs (n.kids.drop s.j) (m.kids.drop s.j) = eqNs n.kids m.kids) (fun s => n.kids.length - s.j) ⟨0⟩
      ⟨Nat.zero_le _, rfl⟩ (fun _ _ h => by rw [hr] at h; cases h) ?_ ?_
    · exact Drop.all hw hn1 ⟨⟨rfl, show σ.next < σ.next + 2 by omega⟩, ⟨rfl, show σ.next + 1 < σ.next + 2 by omega⟩, ⟨rfl, trivial⟩, trivial⟩
    rintro ⟨j⟩ ⟨j1, j4⟩
    simp only at j1 j4 ⊢
    have hjc : ((j : Int) < ((n.kids.length : Nat) : Int)) = (j < n.kids.length) := by simp
    by_cases hj : j < n.kids.length
    · have hj2 : j < m.kids.length := by omega
      have hjd : decide (((j : Nat) : Int) < ((n.kids.length : Nat) : Int)) = true := by simp [hjc, hj]
      have hjp : ((j : Int) < ((n.kids.length : Nat) : Int)) := by omega
      have hjp2 : ((j : Int) < ((m.kids.length : Nat) : Int)) := by omega
      have hget : (encNs n.kids).getD j [] = encN n.kids[j] := encNs_get hj
      have hget2 : (encNs m.kids).getD j [] = encN m.kids[j] := encNs_get hj2
      have hd1 : n.kids.drop j = n.kids[j] :: n.kids.drop (j + 1) := List.drop_eq_getElem_cons hj
      have hd2 : m.kids.drop j = m.kids[j] :: m.kids.drop (j + 1) := List.drop_eq_getElem_cons hj2
      have hj5 : (eqN n.kids[j] m.kids[j] && eqNs (n.kids.drop (j + 1)) (m.kids.drop (j + 1))) = eqNs n.kids m.kids := by
        rw [← j4, hd1, hd2]
        rfl
      have hcm := cntN_mem (List.getElem_mem hj)
      have hwr : IntKind.i64.wrap ((j : Int) + 1) = ((j + 1 : Nat) : Int) := by rw [IntWalk.i64_in _ (by omega)]; rfl
      refine hgo_sound 60 ?_
      simp -implicitDefEqProofs (maxSteps := 1000000) only [simpS, ↓condJ_true, ↓condJ_false, ↓reduceIte, Nat.reduceEqDiff, Nat.reduceLT, Nat.reduceLeDiff, reduceCtorEq, Nat.reduceAdd, Nat.reduceSub, Option.map_some, if_true, if_false, List.getD_cons_zero, List.getD_cons_succ, List.length_cons, List.length_nil, List.mem_cons, List.not_mem_nil, List.mem_append, List.nil_append, List.cons_append, List.append_nil, List.take_succ_cons, List.take_zero, List.drop_succ_cons, List.drop_zero, List.set_cons_zero, List.set_cons_succ, List.map_cons, List.map_nil, implies_true, forall_const, ne_eq, encN_length, encN_kind, encN_gap, encN_text, encN_at, encN_kids, encNs_length, hjd, hjp, hjp2, Int.toNat_natCast, Int.natCast_nonneg, hget, hget2, encN_take]
      refine hx_drawgo 1 ?_
      simp -implicitDefEqProofs (maxSteps := 3000000) only [drawS, List.map_cons, List.map_nil, List.getElem?_cons_zero, List.getElem?_cons_succ, List.getElem?_nil, simpS, ↓condJ_true, ↓condJ_false, ↓reduceIte, Nat.reduceEqDiff, Nat.reduceLT, Nat.reduceLeDiff, reduceCtorEq, Nat.reduceAdd, Nat.reduceSub, Option.map_some, if_true, if_false, List.getD_cons_zero, List.getD_cons_succ, List.length_cons, List.length_nil, List.mem_cons, List.not_mem_nil, List.mem_append, List.nil_append, List.cons_append, List.append_nil, List.take_succ_cons, List.take_zero, List.drop_succ_cons, List.drop_zero, List.set_cons_zero, List.set_cons_succ, List.map_cons, List.map_nil, implies_true, forall_const, ne_eq, hnt', encN_length, encN_take, encN_kids, encNs_length, hjp, hjp2, Int.toNat_natCast, Int.natCast_nonneg, hget, hget2]
      refine hd_call (i := 10) (f := .fn 27) (by simp -implicitDefEqProofs (maxSteps := 3000000) only [drawS, List.map_cons, List.map_nil, List.getElem?_cons_zero, List.getElem?_cons_succ, List.getElem?_nil, simpS, ↓condJ_true, ↓condJ_false, ↓reduceIte, Nat.reduceEqDiff, Nat.reduceLT, Nat.reduceLeDiff, reduceCtorEq, Nat.reduceAdd, Nat.reduceSub, Option.map_some, if_true, if_false, List.getD_cons_zero, List.getD_cons_succ, List.length_cons, List.length_nil, List.mem_cons, List.not_mem_nil, List.mem_append, List.nil_append, List.cons_append, List.append_nil, List.take_succ_cons, List.take_zero, List.drop_succ_cons, List.drop_zero, List.set_cons_zero, List.set_cons_succ, List.map_cons, List.map_nil, implies_true, forall_const, ne_eq, hnt', encN_length, encN_take, encN_kids, encNs_length, hjp, hjp2, Int.toNat_natCast, Int.natCast_nonneg, hget, hget2]) (by rfl) (by rfl) rfl (by rfl) (by rw [hP]; exact hcallD_func (ih n.kids[j] (by omega) (by omega) m.kids[j] _)) ?_
      rintro _ σ2 ⟨rfl, h⟩
      subst σ2
      refine hdgo_sound 1 ?_
      simp -implicitDefEqProofs (maxSteps := 3000000) only [drawS, List.map_cons, List.map_nil, List.getElem?_cons_zero, List.getElem?_cons_succ, List.getElem?_nil, simpS, ↓condJ_true, ↓condJ_false, ↓reduceIte, Nat.reduceEqDiff, Nat.reduceLT, Nat.reduceLeDiff, reduceCtorEq, Nat.reduceAdd, Nat.reduceSub, Option.map_some, if_true, if_false, List.getD_cons_zero, List.getD_cons_succ, List.length_cons, List.length_nil, List.mem_cons, List.not_mem_nil, List.mem_append, List.nil_append, List.cons_append, List.append_nil, List.take_succ_cons, List.take_zero, List.drop_succ_cons, List.drop_zero, List.set_cons_zero, List.set_cons_succ, List.map_cons, List.map_nil, implies_true, forall_const, ne_eq, hnt', encN_length, encN_take, encN_kids, encNs_length, hjp, hjp2, Int.toNat_natCast, Int.natCast_nonneg, hget, hget2]
      cases he : eqN n.kids[j] m.kids[j]
      · rw [he] at hj5
        simp only [Bool.false_and] at hj5
        refine hgo_sound 60 ?_
        simp -implicitDefEqProofs (maxSteps := 1000000) only [simpS, ↓condJ_true, ↓condJ_false, ↓reduceIte, Nat.reduceEqDiff, Nat.reduceLT, Nat.reduceLeDiff, reduceCtorEq, Nat.reduceAdd, Nat.reduceSub, Option.map_some, if_true, if_false, List.getD_cons_zero, List.getD_cons_succ, List.length_cons, List.length_nil, List.mem_cons, List.not_mem_nil, List.mem_append, List.nil_append, List.cons_append, List.append_nil, List.take_succ_cons, List.take_zero, List.drop_succ_cons, List.drop_zero, List.set_cons_zero, List.set_cons_succ, List.map_cons, List.map_nil, implies_true, forall_const, ne_eq, he]
        exact fin false _ rfl (by rw [heq2, ← hj5])
      · rw [he] at hj5
        simp only [Bool.true_and] at hj5
        refine hgo_sound 60 ?_
        simp -implicitDefEqProofs (maxSteps := 1000000) only [simpS, ↓condJ_true, ↓condJ_false, ↓reduceIte, Nat.reduceEqDiff, Nat.reduceLT, Nat.reduceLeDiff, reduceCtorEq, Nat.reduceAdd, Nat.reduceSub, Option.map_some, if_true, if_false, List.getD_cons_zero, List.getD_cons_succ, List.length_cons, List.length_nil, List.mem_cons, List.not_mem_nil, List.mem_append, List.nil_append, List.cons_append, List.append_nil, List.take_succ_cons, List.take_zero, List.drop_succ_cons, List.drop_zero, List.set_cons_zero, List.set_cons_succ, List.map_cons, List.map_nil, implies_true, forall_const, ne_eq, hwr, he]
        intro hw2 hl2 hn2
        refine ⟨⟨j + 1⟩, ⟨by simp only; omega, hj5⟩, by simp only; omega, ?_⟩
        exact Drop.all hw2 hn2 ⟨⟨rfl, show σ.next < σ.next + 2 by omega⟩, ⟨rfl, show σ.next + 1 < σ.next + 2 by omega⟩, ⟨rfl, trivial⟩, trivial⟩
    · have hjd : decide (((j : Nat) : Int) < ((n.kids.length : Nat) : Int)) = false := by simp [hjc, hj]
      have hd1 : n.kids.drop j = [] := List.drop_eq_nil_of_le (by omega)
      have hd2 : m.kids.drop j = [] := List.drop_eq_nil_of_le (by omega)
      rw [hd1, hd2] at j4
      refine hgo_sound 60 ?_
      simp -implicitDefEqProofs (maxSteps := 1000000) only [simpS, ↓condJ_true, ↓condJ_false, ↓reduceIte, Nat.reduceEqDiff, Nat.reduceLT, Nat.reduceLeDiff, reduceCtorEq, Nat.reduceAdd, Nat.reduceSub, Option.map_some, if_true, if_false, List.getD_cons_zero, List.getD_cons_succ, List.length_cons, List.length_nil, List.mem_cons, List.not_mem_nil, List.mem_append, List.nil_append, List.cons_append, List.append_nil, List.take_succ_cons, List.take_zero, List.drop_succ_cons, List.drop_zero, List.set_cons_zero, List.set_cons_succ, List.map_cons, List.map_nil, implies_true, forall_const, ne_eq, encN_length, encN_kind, encN_gap, encN_text, encN_at, encN_kids, encNs_length, hjd]
      exact fin true _ rfl (by rw [heq2, ← j4]; rfl)
  · have g5 : (((n.kids.length : Nat) : Int) != ((m.kids.length : Nat) : Int)) = true := by simp; omega
    refine hgo_sound 80 ?_
    simp -implicitDefEqProofs (maxSteps := 1000000) only [simpS, ↓condJ_true, ↓condJ_false, ↓reduceIte, Nat.reduceEqDiff, Nat.reduceLT, Nat.reduceLeDiff, reduceCtorEq, Nat.reduceAdd, Nat.reduceSub, Option.map_some, if_true, if_false, List.getD_cons_zero, List.getD_cons_succ, List.length_cons, List.length_nil, List.mem_cons, List.not_mem_nil, List.mem_append, List.nil_append, List.cons_append, List.append_nil, List.take_succ_cons, List.take_zero, List.drop_succ_cons, List.drop_zero, List.set_cons_zero, List.set_cons_succ, List.map_cons, List.map_nil, implies_true, forall_const, ne_eq, encN_length, encN_kind, encN_gap, encN_text, encN_at, encN_kids, encNs_length, g1, h2, h3, g4, g5, bs]
    exact fin false _ rfl (by rw [heq2, eqNs_len _ _ hlen])

end Go.Hl
