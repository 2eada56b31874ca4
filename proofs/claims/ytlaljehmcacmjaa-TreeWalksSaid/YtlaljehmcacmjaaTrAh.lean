/-
  tree.has, tree.Path.
-/
import Derived.Test.YtlaljehmcacmjaaTrF
import Derived.Test.YtlaljehmcacmjaaTrK
set_option linter.unusedSectionVars false
set_option linter.unusedVariables false
set_option linter.unusedSimpArgs false
set_option maxRecDepth 100000
namespace Go.Hl
open Go Go.Proofs

def hasN (z : Int) (n : Nd) : Bool := (spanN n).ok && (decide (z ≥ (spanN n).a) && decide (z < (spanN n).b))

theorem has_calls (n : Nd) (hn : cntN n ≤ 1099511627776) (z : Int) (σ : St) : HCalls Try.prog 42 [.agg (encN n), .int .i64 z] σ (fun d σ' => d = .bool (hasN z n) ∧ σ' = σ) := by
  refine hcalls_body (fn := Try.f42) rfl c42 (by simp [h42]) (by simp [h42, Try.f42]) ?_
  intro M hP hr hnt hnx hwf hlt
  simp only [h42, argEnv]
  refine hgo_sound 40 ?_
  simp -implicitDefEqProofs (maxSteps := 1000000) only [simpS, ↓condJ_true, ↓condJ_false, ↓reduceIte, Nat.reduceEqDiff, Nat.reduceLT, Nat.reduceLeDiff, reduceCtorEq, Nat.reduceAdd, Nat.reduceSub, Option.map_some, if_true, if_false, List.getD_cons_zero, List.getD_cons_succ, List.length_cons, List.length_nil, List.mem_cons, List.not_mem_nil, List.mem_append, List.nil_append, List.cons_append, List.append_nil, List.take_succ_cons, List.take_zero, List.drop_succ_cons, List.drop_zero, List.set_cons_zero, List.set_cons_succ, List.map_cons, List.map_nil, implies_true, forall_const, ne_eq, encN_length, encN_take]
  refine hx_call (f := .fn 32) rfl (by rw [hP]; exact hcallD_func (span_calls n hn _)) ?_
  rintro _ σ2 ⟨rfl, h⟩
  subst σ2
  have hsub : Ext σ (σ.new (.box (encN n))) := (Ext.refl σ).new _
  unfold hasN
  cases h1 : (spanN n).ok
  · refine hgo_sound 60 ?_
    simp -implicitDefEqProofs (maxSteps := 1000000) only [simpS, ↓condJ_true, ↓condJ_false, ↓reduceIte, Nat.reduceEqDiff, Nat.reduceLT, Nat.reduceLeDiff, reduceCtorEq, Nat.reduceAdd, Nat.reduceSub, Option.map_some, if_true, if_false, List.getD_cons_zero, List.getD_cons_succ, List.length_cons, List.length_nil, List.mem_cons, List.not_mem_nil, List.mem_append, List.nil_append, List.cons_append, List.append_nil, List.take_succ_cons, List.take_zero, List.drop_succ_cons, List.drop_zero, List.set_cons_zero, List.set_cons_succ, List.map_cons, List.map_nil, implies_true, forall_const, ne_eq]
    exact fpost_pure (σ0 := σ) (.inr rfl) (by rw [hnx]; exact Nat.le_refl _) hwf (hsub.sub hwf) rfl trivial trivial ⟨rfl, rfl⟩
  cases h2 : decide (z ≥ (spanN n).a)
  · refine hgo_sound 60 ?_
    simp -implicitDefEqProofs (maxSteps := 1000000) only [simpS, ↓condJ_true, ↓condJ_false, ↓reduceIte, Nat.reduceEqDiff, Nat.reduceLT, Nat.reduceLeDiff, reduceCtorEq, Nat.reduceAdd, Nat.reduceSub, Option.map_some, if_true, if_false, List.getD_cons_zero, List.getD_cons_succ, List.length_cons, List.length_nil, List.mem_cons, List.not_mem_nil, List.mem_append, List.nil_append, List.cons_append, List.append_nil, List.take_succ_cons, List.take_zero, List.drop_succ_cons, List.drop_zero, List.set_cons_zero, List.set_cons_succ, List.map_cons, List.map_nil, implies_true, forall_const, ne_eq, h2]
    exact fpost_pure (σ0 := σ) (.inr rfl) (by rw [hnx]; exact Nat.le_refl _) hwf (hsub.sub hwf) rfl trivial trivial ⟨rfl, rfl⟩
  · refine hgo_sound 60 ?_
    simp -implicitDefEqProofs (maxSteps := 1000000) only [simpS, ↓condJ_true, ↓condJ_false, ↓reduceIte, Nat.reduceEqDiff, Nat.reduceLT, Nat.reduceLeDiff, reduceCtorEq, Nat.reduceAdd, Nat.reduceSub, Option.map_some, if_true, if_false, List.getD_cons_zero, List.getD_cons_succ, List.length_cons, List.length_nil, List.mem_cons, List.not_mem_nil, List.mem_append, List.nil_append, List.cons_append, List.append_nil, List.take_succ_cons, List.take_zero, List.drop_succ_cons, List.drop_zero, List.set_cons_zero, List.set_cons_succ, List.map_cons, List.map_nil, implies_true, forall_const, ne_eq, h2]
    exact fpost_pure (σ0 := σ) (.inr rfl) (by rw [hnx]; exact Nat.le_refl _) hwf (hsub.sub hwf) rfl trivial trivial ⟨rfl, rfl⟩

def idxN (p : Nd → Bool) : List Nd → Nat → Int
  | [], _ => -1
  | x :: xs, j => if p x then j else idxN p xs (j + 1)

structure IxS where
  j : Nat
  i : Int

theorem indexFunc_calls (us : List Nd) (f : Nat) (caps : List D) (p : Nd → Bool) (hl : us.length ≤ 1099511627776) (σ : St)
    (H : ∀ x ∈ us, ∀ σ', Ext σ σ' → HCalls Try.prog f (.agg (encN x) :: caps) σ' (fun d σ'' => d = .bool (p x) ∧ σ'' = σ')) (o : Own) :
    HCalls Try.prog 43 [.slice o 5 (encNs us), .func f caps] σ (fun d σ' => d = .int .i64 (idxN p us 0) ∧ σ' = σ) := by
  refine hcalls_body (fn := Try.f43) rfl c43 (by simp [h43]) (by simp [h43, Try.f43]) ?_
  intro M hP hr hnt hnx hwf hlt
  simp only [h43, argEnv]
  have hcaps : ltL σ.next caps := hlt.2.1
  have hus : (D.slice o 5 (encNs us)).lt σ.next := hlt.1
  refine hgo_sound 40 ?_
  simp -implicitDefEqProofs (maxSteps := 1000000) only [simpS, ↓condJ_true, ↓condJ_false, ↓reduceIte, Nat.reduceEqDiff, Nat.reduceLT, Nat.reduceLeDiff, reduceCtorEq, Nat.reduceAdd, Nat.reduceSub, Option.map_some, if_true, if_false, List.getD_cons_zero, List.getD_cons_succ, List.length_cons, List.length_nil, List.mem_cons, List.not_mem_nil, List.mem_append, List.nil_append, List.cons_append, List.append_nil, List.take_succ_cons, List.take_zero, List.drop_succ_cons, List.drop_zero, List.set_cons_zero, List.set_cons_succ, List.map_cons, List.map_nil, implies_true, forall_const, ne_eq]
  refine hx_know_code fun hw hl1 hn1 => ?_
  refine hx_loop (S := IxS) (fun s => [(0, .slice o 5 (encNs us)), (1, .func f caps), (7, .int .i64 ((encNs us).length : Int)), (8, .int .i64 s.j)]) (fun s => σ)
    (fun s => s.j ≤ us.length ∧ idxN p (us.drop s.j) s.j = idxN p us 0) (fun s => us.length - s.j) ⟨0, 0⟩
    ⟨Nat.zero_le _, rfl⟩ (fun _ _ h => by rw [hr] at h; cases h) ?_ ?_
  · exact Drop.all hw (by rw [hnx]; exact Nat.le_refl _) ⟨⟨rfl, hus⟩, ⟨rfl, hcaps⟩, ⟨rfl, trivial⟩, ⟨rfl, trivial⟩, trivial⟩
  rintro ⟨j, i0⟩ ⟨j1, j4⟩
  simp only at j1 j4 ⊢
  have hjc : ((j : Int) < ((encNs us).length : Int)) = (j < us.length) := by rw [encNs_length]; simp
  by_cases hj : j < us.length
  · have hjd : decide (((j : Nat) : Int) < ((encNs us).length : Int)) = true := by simp [hjc, hj]
    have hjp : ((j : Int) < ((encNs us).length : Int)) := by rw [encNs_length]; omega
    have hget : (encNs us).getD j [] = encN us[j] := encNs_get hj
    have hd1 : us.drop j = us[j] :: us.drop (j + 1) := List.drop_eq_getElem_cons hj
    rw [hd1] at j4
    simp only [idxN] at j4
    have hwr : IntKind.i64.wrap ((j : Int) + 1) = ((j + 1 : Nat) : Int) := by rw [IntWalk.i64_in _ (by omega)]; rfl
    refine hgo_sound 60 ?_
    simp -implicitDefEqProofs (maxSteps := 1000000) only [simpS, ↓condJ_true, ↓condJ_false, ↓reduceIte, Nat.reduceEqDiff, Nat.reduceLT, Nat.reduceLeDiff, reduceCtorEq, Nat.reduceAdd, Nat.reduceSub, Option.map_some, if_true, if_false, List.getD_cons_zero, List.getD_cons_succ, List.length_cons, List.length_nil, List.mem_cons, List.not_mem_nil, List.mem_append, List.nil_append, List.cons_append, List.append_nil, List.take_succ_cons, List.take_zero, List.drop_succ_cons, List.drop_zero, List.set_cons_zero, List.set_cons_succ, List.map_cons, List.map_nil, implies_true, forall_const, ne_eq, hjd, hjp, Int.toNat_natCast, Int.natCast_nonneg, hget, encN_length, encN_take]
    refine hx_call rfl (by rw [hP]; exact hcallD_func (H us[j] (List.getElem_mem hj) _ (Ext.refl σ))) ?_
    rintro _ σ2 ⟨rfl, h⟩
    subst σ2
    cases he : p us[j]
    · rw [he] at j4
      refine hgo_sound 60 ?_
      simp -implicitDefEqProofs (maxSteps := 1000000) only [simpS, ↓condJ_true, ↓condJ_false, ↓reduceIte, Nat.reduceEqDiff, Nat.reduceLT, Nat.reduceLeDiff, reduceCtorEq, Nat.reduceAdd, Nat.reduceSub, Option.map_some, if_true, if_false, List.getD_cons_zero, List.getD_cons_succ, List.length_cons, List.length_nil, List.mem_cons, List.not_mem_nil, List.mem_append, List.nil_append, List.cons_append, List.append_nil, List.take_succ_cons, List.take_zero, List.drop_succ_cons, List.drop_zero, List.set_cons_zero, List.set_cons_succ, List.map_cons, List.map_nil, implies_true, forall_const, ne_eq, hwr]
      intro hw2 hl2 hn2
      refine ⟨⟨j + 1, 0⟩, ⟨by simp only; omega, by simpa using j4⟩, by simp only; omega, ?_⟩
      exact Drop.all hwf (by rw [hnx]; exact Nat.le_refl _) ⟨⟨rfl, hus⟩, ⟨rfl, hcaps⟩, ⟨rfl, trivial⟩, ⟨rfl, trivial⟩, trivial⟩
    · rw [he, if_pos rfl] at j4
      rw [← j4]
      refine hgo_sound 60 ?_
      simp -implicitDefEqProofs (maxSteps := 1000000) only [simpS, ↓condJ_true, ↓condJ_false, ↓reduceIte, Nat.reduceEqDiff, Nat.reduceLT, Nat.reduceLeDiff, reduceCtorEq, Nat.reduceAdd, Nat.reduceSub, Option.map_some, if_true, if_false, List.getD_cons_zero, List.getD_cons_succ, List.length_cons, List.length_nil, List.mem_cons, List.not_mem_nil, List.mem_append, List.nil_append, List.cons_append, List.append_nil, List.take_succ_cons, List.take_zero, List.drop_succ_cons, List.drop_zero, List.set_cons_zero, List.set_cons_succ, List.map_cons, List.map_nil, implies_true, forall_const, ne_eq]
      exact fpost_pure (σ0 := σ) (.inr rfl) (by rw [hnx]; exact Nat.le_refl _) hwf (Sub.refl σ) rfl trivial trivial ⟨rfl, rfl⟩
  · have hjd : decide (((j : Nat) : Int) < ((encNs us).length : Int)) = false := by simp [hjc, hj]
    have hd1 : us.drop j = [] := List.drop_eq_nil_of_le (by omega)
    rw [hd1] at j4
    rw [← j4]
    refine hgo_sound 60 ?_
    simp -implicitDefEqProofs (maxSteps := 1000000) only [simpS, ↓condJ_true, ↓condJ_false, ↓reduceIte, Nat.reduceEqDiff, Nat.reduceLT, Nat.reduceLeDiff, reduceCtorEq, Nat.reduceAdd, Nat.reduceSub, Option.map_some, if_true, if_false, List.getD_cons_zero, List.getD_cons_succ, List.length_cons, List.length_nil, List.mem_cons, List.not_mem_nil, List.mem_append, List.nil_append, List.cons_append, List.append_nil, List.take_succ_cons, List.take_zero, List.drop_succ_cons, List.drop_zero, List.set_cons_zero, List.set_cons_succ, List.map_cons, List.map_nil, implies_true, forall_const, ne_eq, hjd]
    exact fpost_pure (σ0 := σ) (.inr rfl) (by rw [hnx]; exact Nat.le_refl _) hwf (Sub.refl σ) rfl trivial trivial ⟨rfl, rfl⟩

theorem path1_calls (x : Nd) (hn : cntN x ≤ 1099511627776) (z : Int) (id : Nat) (σ : St) (hid : σ.obj id = some (.bx none [.int .i64 z])) :
    HCalls Try.prog 44 [.agg (encN x), .ptr id 0] σ (fun d σ' => d = .bool (hasN z x) ∧ σ' = σ) := by
  refine hcalls_body (fn := Try.f44) rfl c44 (by simp [h44]) (by simp [h44, Try.f44]) ?_
  intro M hP hr hnt hnx hwf hlt
  simp only [h44, argEnv]
  have hlt2 : id < σ.next := hlt.2.1
  have q0 : ¬ id = σ.next := by omega
  refine hgo_sound 40 ?_
  simp -implicitDefEqProofs (maxSteps := 1000000) only [simpS, ↓condJ_true, ↓condJ_false, ↓reduceIte, Nat.reduceEqDiff, Nat.reduceLT, Nat.reduceLeDiff, reduceCtorEq, Nat.reduceAdd, Nat.reduceSub, Option.map_some, if_true, if_false, List.getD_cons_zero, List.getD_cons_succ, List.length_cons, List.length_nil, List.mem_cons, List.not_mem_nil, List.mem_append, List.nil_append, List.cons_append, List.append_nil, List.take_succ_cons, List.take_zero, List.drop_succ_cons, List.drop_zero, List.set_cons_zero, List.set_cons_succ, List.map_cons, List.map_nil, implies_true, forall_const, ne_eq, encN_length, encN_take, hid, q0]
  refine hx_call (f := .fn 42) rfl (by rw [hP]; exact hcallD_func (has_calls x hn z _)) ?_
  rintro _ σ2 ⟨rfl, h⟩
  subst σ2
  refine hgo_sound 40 ?_
  simp -implicitDefEqProofs (maxSteps := 1000000) only [simpS, ↓condJ_true, ↓condJ_false, ↓reduceIte, Nat.reduceEqDiff, Nat.reduceLT, Nat.reduceLeDiff, reduceCtorEq, Nat.reduceAdd, Nat.reduceSub, Option.map_some, if_true, if_false, List.getD_cons_zero, List.getD_cons_succ, List.length_cons, List.length_nil, List.mem_cons, List.not_mem_nil, List.mem_append, List.nil_append, List.cons_append, List.append_nil, List.take_succ_cons, List.take_zero, List.drop_succ_cons, List.drop_zero, List.set_cons_zero, List.set_cons_succ, List.map_cons, List.map_nil, implies_true, forall_const, ne_eq]
  exact fpost_pure (σ0 := σ) (.inr rfl) (by rw [hnx]; exact Nat.le_refl _) hwf (((Ext.refl σ).new _).sub hwf) rfl trivial trivial ⟨rfl, rfl⟩

mutual
def pthN (z : Int) : Nd → List Int
  | .mk k g t a ks => k :: pthNs z ks
def pthNs (z : Int) : List Nd → List Int
  | [] => []
  | x :: xs => if hasN z x then pthN z x else pthNs z xs
end
def pathN (z : Int) (n : Nd) : List Int := if rightN n && hasN z n then pthN z n else []

def encK (l : List Int) : List (List D) := l.map fun k => [.int .i64 k]
theorem encK_length (l : List Int) : (encK l).length = l.length := by simp [encK]
theorem encK_lt (n : Nat) : ∀ l : List Int, ltX n (encK l)
  | [] => trivial
  | k :: l => ⟨⟨trivial, trivial⟩, encK_lt n l⟩

theorem pthN_eq (z : Int) : ∀ n : Nd, pthN z n = n.kind :: pthNs z n.kids
  | .mk k g t a ks => rfl

theorem idx_spec (z : Int) : ∀ (ks : List Nd) (j : Nat), (idxN (hasN z) ks j = -1 ∧ pthNs z ks = []) ∨ ∃ (i : Nat) (h : i < ks.length), idxN (hasN z) ks j = ((j + i : Nat) : Int) ∧ pthNs z ks = pthN z ks[i]
  | [], j => .inl ⟨rfl, rfl⟩
  | x :: xs, j => by
    simp only [idxN, pthNs]
    by_cases h : hasN z x = true
    · rw [if_pos h, if_pos h]
      exact .inr ⟨0, by simp, by simp, rfl⟩
    · rw [if_neg h, if_neg h]
      rcases idx_spec z xs (j + 1) with h1 | ⟨i, hi, h1, h2⟩
      · exact .inl h1
      · exact .inr ⟨i + 1, by simpa using hi, by rw [h1]; congr 1; omega, h2⟩

/-- The token of a list that was made with one element, and grows. -/
def tokOb (te n : Nat) : Ob := if n = 1 then .tokF te 1 else .tok te n

structure PtS where
  m : Nd
  l : List Int

def pathS (σ : St) (z : Int) (te : Nat) (s : PtS) : St := ((σ.new (.box (encN s.m))).new (.box [.int .i64 z])).new (tokOb te s.l.length)

theorem tokOb_lt (te n k : Nat) : (tokOb te n).lt k := by unfold tokOb; split <;> trivial

set_option maxHeartbeats 1000000 in
theorem path_calls (n : Nd) (hn : cntN n ≤ 1099511627776) (z : Int) (σ : St) : HCalls Try.prog 23 [.agg (encN n), .int .i64 z] σ (fun d σ' => d = .slice .no 1 (encK (pathN z n)) ∧ σ' = σ) := by
  refine hcalls_body (fn := Try.f23) rfl c23 (by simp [h23]) (by simp [h23, Try.f23]) ?_
  intro M hP hr hnt hnx hwf hlt
  simp only [h23, argEnv]
  have hsub : Ext σ ((σ.new (.box (encN n))).new (.box [.int .i64 z])) := ((Ext.refl σ).new _).new _
  have fin : ∀ (e : Env), pathN z n = [] → look e 4 = .slice .nil 0 [] → FPost M.gS.next [HR.tmp 4] (fun d σ' => d = .slice .no 1 (encK (pathN z n)) ∧ σ' = σ) .ret e ((σ.new (.box (encN n))).new (.box [.int .i64 z])) := fun e hp h4 => by
    rw [hp]
    exact fpost_wk (σ0 := σ) (ds := [.slice .nil 0 []]) (d := .slice .no 1 []) .nil (.inr rfl) (by rw [hnx]; exact Nat.le_refl _) hwf (hsub.sub hwf) (by simp -implicitDefEqProofs (maxSteps := 1000000) only [simpS, ↓condJ_true, ↓condJ_false, ↓reduceIte, Nat.reduceEqDiff, Nat.reduceLT, Nat.reduceLeDiff, reduceCtorEq, Nat.reduceAdd, Nat.reduceSub, Option.map_some, if_true, if_false, List.getD_cons_zero, List.getD_cons_succ, List.length_cons, List.length_nil, List.mem_cons, List.not_mem_nil, List.mem_append, List.nil_append, List.cons_append, List.append_nil, List.take_succ_cons, List.take_zero, List.drop_succ_cons, List.drop_zero, List.set_cons_zero, List.set_cons_succ, List.map_cons, List.map_nil, implies_true, forall_const, ne_eq, resD_e1, resD_e2, resD_e3, h4]) trivial ⟨trivial, trivial⟩ ⟨rfl, rfl⟩
  refine hgo_sound 40 ?_
  simp -implicitDefEqProofs (maxSteps := 1000000) only [simpS, ↓condJ_true, ↓condJ_false, ↓reduceIte, Nat.reduceEqDiff, Nat.reduceLT, Nat.reduceLeDiff, reduceCtorEq, Nat.reduceAdd, Nat.reduceSub, Option.map_some, if_true, if_false, List.getD_cons_zero, List.getD_cons_succ, List.length_cons, List.length_nil, List.mem_cons, List.not_mem_nil, List.mem_append, List.nil_append, List.cons_append, List.append_nil, List.take_succ_cons, List.take_zero, List.drop_succ_cons, List.drop_zero, List.set_cons_zero, List.set_cons_succ, List.map_cons, List.map_nil, implies_true, forall_const, ne_eq, encN_length, encN_take]
  refine hx_call (f := .fn 11) rfl (by rw [hP]; exact hcallD_func (right_calls n hn _)) ?_
  rintro _ σ2 ⟨rfl, h⟩
  subst σ2
  cases h1 : rightN n
  · refine hgo_sound 60 ?_
    simp -implicitDefEqProofs (maxSteps := 1000000) only [simpS, ↓condJ_true, ↓condJ_false, ↓reduceIte, Nat.reduceEqDiff, Nat.reduceLT, Nat.reduceLeDiff, reduceCtorEq, Nat.reduceAdd, Nat.reduceSub, Option.map_some, if_true, if_false, List.getD_cons_zero, List.getD_cons_succ, List.length_cons, List.length_nil, List.mem_cons, List.not_mem_nil, List.mem_append, List.nil_append, List.cons_append, List.append_nil, List.take_succ_cons, List.take_zero, List.drop_succ_cons, List.drop_zero, List.set_cons_zero, List.set_cons_succ, List.map_cons, List.map_nil, implies_true, forall_const, ne_eq, encN_length, encN_take]
    repeat
      refine hx_op_not (by rfl) (by rfl) ?_
      refine hgo_sound 60 ?_
      simp -implicitDefEqProofs (maxSteps := 1000000) only [simpS, ↓condJ_true, ↓condJ_false, ↓reduceIte, Nat.reduceEqDiff, Nat.reduceLT, Nat.reduceLeDiff, reduceCtorEq, Nat.reduceAdd, Nat.reduceSub, Option.map_some, if_true, if_false, List.getD_cons_zero, List.getD_cons_succ, List.length_cons, List.length_nil, List.mem_cons, List.not_mem_nil, List.mem_append, List.nil_append, List.cons_append, List.append_nil, List.take_succ_cons, List.take_zero, List.drop_succ_cons, List.drop_zero, List.set_cons_zero, List.set_cons_succ, List.map_cons, List.map_nil, implies_true, forall_const, ne_eq]
    exact fin _ (by simp [pathN, h1]) rfl
  refine hgo_sound 60 ?_
  simp -implicitDefEqProofs (maxSteps := 1000000) only [simpS, ↓condJ_true, ↓condJ_false, ↓reduceIte, Nat.reduceEqDiff, Nat.reduceLT, Nat.reduceLeDiff, reduceCtorEq, Nat.reduceAdd, Nat.reduceSub, Option.map_some, if_true, if_false, List.getD_cons_zero, List.getD_cons_succ, List.length_cons, List.length_nil, List.mem_cons, List.not_mem_nil, List.mem_append, List.nil_append, List.cons_append, List.append_nil, List.take_succ_cons, List.take_zero, List.drop_succ_cons, List.drop_zero, List.set_cons_zero, List.set_cons_succ, List.map_cons, List.map_nil, implies_true, forall_const, ne_eq, encN_length, encN_take]
  refine hx_call (f := .fn 42) rfl (by rw [hP]; exact hcallD_func (has_calls n hn z _)) ?_
  rintro _ σ2 ⟨rfl, h⟩
  subst σ2
  cases h2 : hasN z n
  · refine hgo_sound 60 ?_
    simp -implicitDefEqProofs (maxSteps := 1000000) only [simpS, ↓condJ_true, ↓condJ_false, ↓reduceIte, Nat.reduceEqDiff, Nat.reduceLT, Nat.reduceLeDiff, reduceCtorEq, Nat.reduceAdd, Nat.reduceSub, Option.map_some, if_true, if_false, List.getD_cons_zero, List.getD_cons_succ, List.length_cons, List.length_nil, List.mem_cons, List.not_mem_nil, List.mem_append, List.nil_append, List.cons_append, List.append_nil, List.take_succ_cons, List.take_zero, List.drop_succ_cons, List.drop_zero, List.set_cons_zero, List.set_cons_succ, List.map_cons, List.map_nil, implies_true, forall_const, ne_eq, encN_length, encN_take]
    exact fin _ (by simp [pathN, h2]) rfl
  have hp : pathN z n = n.kind :: pthNs z n.kids := by simp [pathN, h1, h2, pthN_eq]
  refine hgo_sound 60 ?_
  simp -implicitDefEqProofs (maxSteps := 1000000) only [simpS, ↓condJ_true, ↓condJ_false, ↓reduceIte, Nat.reduceEqDiff, Nat.reduceLT, Nat.reduceLeDiff, reduceCtorEq, Nat.reduceAdd, Nat.reduceSub, Option.map_some, if_true, if_false, List.getD_cons_zero, List.getD_cons_succ, List.length_cons, List.length_nil, List.mem_cons, List.not_mem_nil, List.mem_append, List.nil_append, List.cons_append, List.append_nil, List.take_succ_cons, List.take_zero, List.drop_succ_cons, List.drop_zero, List.set_cons_zero, List.set_cons_succ, List.map_cons, List.map_nil, implies_true, forall_const, ne_eq, encN_length, encN_take, encN_kind, Nat.reduceMul]
  refine hx_own (t := 5) 22 rfl (by simp) ?_ (fun _ e => by cases e) (fun _ e => by cases e)
  simp -implicitDefEqProofs (maxSteps := 1000000) only [simpS, ↓condJ_true, ↓condJ_false, ↓reduceIte, Nat.reduceEqDiff, Nat.reduceLT, Nat.reduceLeDiff, reduceCtorEq, Nat.reduceAdd, Nat.reduceSub, Option.map_some, if_true, if_false, List.getD_cons_zero, List.getD_cons_succ, List.length_cons, List.length_nil, List.mem_cons, List.not_mem_nil, List.mem_append, List.nil_append, List.cons_append, List.append_nil, List.take_succ_cons, List.take_zero, List.drop_succ_cons, List.drop_zero, List.set_cons_zero, List.set_cons_succ, List.map_cons, List.map_nil, implies_true, forall_const, ne_eq]
  refine hx_know_code fun hw hl1 hn1 => ?_
  refine hx_loop (S := PtS) (fun s => [(2, .ptr σ.next 0), (3, .ptr (σ.next + 1) 0), (5, .slice (.tok (σ.next + 2)) 1 (encK s.l))]) (pathS σ z 22)
    (fun s => 0 < s.l.length ∧ s.l ++ pthNs z s.m.kids = pathN z n ∧ s.l.length + cntN s.m ≤ cntN n + 1) (fun s => cntN s.m) ⟨n, [n.kind]⟩
    ⟨by simp, by rw [hp]; rfl, by simp; omega⟩ (fun _ _ h => by rw [hr] at h; cases h) ?_ ?_
  · exact Drop.all hw hn1 ⟨⟨rfl, by show σ.next < σ.next + 3; omega⟩, ⟨rfl, by show σ.next + 1 < σ.next + 3; omega⟩, ⟨rfl, ⟨by show σ.next + 2 < σ.next + 3; omega, encK_lt _ _⟩⟩, trivial⟩
  rintro ⟨m, l⟩ ⟨j1, j2, j3⟩
  simp only at j1 j2 j3 ⊢
  have hkids := cntN_kids m
  have hklen := kids_le m.kids
  have wfS : ∀ s, (pathS σ z 22 s).wf := fun s => ((hwf.box (encN_lt _ _)).box (cs := [.int .i64 z]) ⟨trivial, trivial⟩).new (tokOb_lt _ _ _)
  have o0 : (pathS σ z 22 ⟨m, l⟩).obj σ.next = some (.box (encN m)) := by simp only [pathS, simpS, ↓condJ_true, ↓condJ_false, ↓reduceIte, Nat.reduceEqDiff, Nat.reduceLT, Nat.reduceLeDiff, reduceCtorEq, Nat.reduceAdd, Nat.reduceSub, Option.map_some, if_true, if_false, List.getD_cons_zero, List.getD_cons_succ, List.length_cons, List.length_nil, List.mem_cons, List.not_mem_nil, List.mem_append, List.nil_append, List.cons_append, List.append_nil, List.take_succ_cons, List.take_zero, List.drop_succ_cons, List.drop_zero, List.set_cons_zero, List.set_cons_succ, List.map_cons, List.map_nil, implies_true, forall_const, ne_eq]
  have o1 : (pathS σ z 22 ⟨m, l⟩).obj (σ.next + 1) = some (.box [.int .i64 z]) := by simp only [pathS, simpS, ↓condJ_true, ↓condJ_false, ↓reduceIte, Nat.reduceEqDiff, Nat.reduceLT, Nat.reduceLeDiff, reduceCtorEq, Nat.reduceAdd, Nat.reduceSub, Option.map_some, if_true, if_false, List.getD_cons_zero, List.getD_cons_succ, List.length_cons, List.length_nil, List.mem_cons, List.not_mem_nil, List.mem_append, List.nil_append, List.cons_append, List.append_nil, List.take_succ_cons, List.take_zero, List.drop_succ_cons, List.drop_zero, List.set_cons_zero, List.set_cons_succ, List.map_cons, List.map_nil, implies_true, forall_const, ne_eq]
  refine hgo_sound 60 ?_
  simp -implicitDefEqProofs (maxSteps := 1000000) only [simpS, ↓condJ_true, ↓condJ_false, ↓reduceIte, Nat.reduceEqDiff, Nat.reduceLT, Nat.reduceLeDiff, reduceCtorEq, Nat.reduceAdd, Nat.reduceSub, Option.map_some, if_true, if_false, List.getD_cons_zero, List.getD_cons_succ, List.length_cons, List.length_nil, List.mem_cons, List.not_mem_nil, List.mem_append, List.nil_append, List.cons_append, List.append_nil, List.take_succ_cons, List.take_zero, List.drop_succ_cons, List.drop_zero, List.set_cons_zero, List.set_cons_succ, List.map_cons, List.map_nil, implies_true, forall_const, ne_eq, encN_length, encN_take, encN_kids, o0, o1]
  refine hx_call (f := .fn 43) rfl (by rw [hP]; exact hcallD_func (indexFunc_calls m.kids 44 [.ptr (σ.next + 1) 0] (hasN z) (by omega) _ (fun x hx σ' he => path1_calls x (by have := cntN_mem hx; omega) z _ _ (by rw [he.obj _ (by simp only [pathS, St.next_new]; omega)]; exact o1)) .no)) ?_
  rintro _ σ2 ⟨rfl, h⟩
  subst σ2
  rcases idx_spec z m.kids 0 with ⟨hi, hp0⟩ | ⟨i, hi, he, hp0⟩
  · rw [hi]
    rw [hp0, List.append_nil] at j2
    have hd : decide ((-1 : Int) < 0) = true := rfl
    refine hgo_sound 60 ?_
    simp -implicitDefEqProofs (maxSteps := 1000000) only [simpS, ↓condJ_true, ↓condJ_false, ↓reduceIte, Nat.reduceEqDiff, Nat.reduceLT, Nat.reduceLeDiff, reduceCtorEq, Nat.reduceAdd, Nat.reduceSub, Option.map_some, if_true, if_false, List.getD_cons_zero, List.getD_cons_succ, List.length_cons, List.length_nil, List.mem_cons, List.not_mem_nil, List.mem_append, List.nil_append, List.cons_append, List.append_nil, List.take_succ_cons, List.take_zero, List.drop_succ_cons, List.drop_zero, List.set_cons_zero, List.set_cons_succ, List.map_cons, List.map_nil, implies_true, forall_const, ne_eq, hd]
    rw [← j2]
    exact fpost_strip (σ0 := σ) (ds := [.slice (.tok (σ.next + 2)) 1 (encK l)]) (Wk.refl _) (.inr rfl) (by rw [hnx]; exact Nat.le_refl _) hwf (((((Ext.refl σ).new _).new _).new _).sub hwf) rfl trivial (by simp only [tupD, frzD, if_true, D.lt, Own.lt]; exact ⟨trivial, encK_lt _ _⟩) ⟨rfl, rfl⟩
  · rw [he, Nat.zero_add]
    rw [hp0, pthN_eq] at j2
    have hd : decide ((i : Int) < 0) = false := by simp
    have hge : (0 : Int) ≤ (i : Int) := Int.natCast_nonneg _
    have hlt2 : (i : Int) < ((encNs m.kids).length : Int) := by rw [encNs_length]; omega
    have hget : (encNs m.kids).getD i [] = encN m.kids[i] := encNs_get hi
    have hmem := cntN_mem (List.getElem_mem hi)
    generalize hmi : m.kids[i] = m2 at *
    have hT : pathS σ z 22 ⟨m2, l ++ [m2.kind]⟩ = ((σ.new (.box (encN m2))).new (.box [.int .i64 z])).new (.tok 22 (l.length + 1)) := by
      have : tokOb 22 (l ++ [m2.kind]).length = .tok 22 (l.length + 1) := by
        simp only [tokOb, List.length_append, List.length_singleton]
        rw [if_neg (by omega)]
      simp only [pathS, this]
    have hK : encK l ++ [[.int .i64 m2.kind]] = encK (l ++ [m2.kind]) := by simp [encK]
    have hb1 : (l.length + 1) * 8 ≤ 140737488355328 := by omega
    have hb2 : l.length + 1 ≤ 9223372036854775807 := by omega
    have hend : ∀ (e : Env) (σ' : St), σ' = pathS σ z 22 ⟨m2, l ++ [m2.kind]⟩ → look e 2 = .ptr σ.next 0 → look e 3 = .ptr (σ.next + 1) 0 → look e 5 = .slice (.tok (σ.next + 2)) 1 (encK (l ++ [m2.kind])) →
        σ'.wf → (∀ t, (look e t).lt σ'.next) → M.gS.next ≤ σ'.next → ∃ s' : PtS, (0 < s'.l.length ∧ s'.l ++ pthNs z s'.m.kids = pathN z n ∧ s'.l.length + cntN s'.m ≤ cntN n + 1) ∧ cntN s'.m < cntN m ∧
          Drop M.gS.next [(2, .ptr σ.next 0), (3, .ptr (σ.next + 1) 0), (5, .slice (.tok (σ.next + 2)) 1 (encK s'.l))] (pathS σ z 22 s') e σ' := fun e σ' hσ k2 k3 k5 hw2 hl2 hn2 => by
      refine ⟨⟨m2, l ++ [m2.kind]⟩, ⟨by simp, by simpa using j2, by simp only [List.length_append, List.length_singleton]; omega⟩, by simp only; omega, ?_⟩
      subst hσ
      exact Drop.all hw2 hn2 ⟨⟨k2.symm, by show σ.next < σ.next + 3; omega⟩, ⟨k3.symm, by show σ.next + 1 < σ.next + 3; omega⟩, ⟨k5.symm, ⟨by show σ.next + 2 < σ.next + 3; omega, encK_lt _ _⟩⟩, trivial⟩
    by_cases hl : l.length = 1
    · have ho : tokOb 22 l.length = .tokF 22 1 := by simp [tokOb, hl]
      rw [hl] at hT
      rw [show pathS σ z 22 ⟨m, l⟩ = ((σ.new (.box (encN m))).new (.box [.int .i64 z])).new (.tokF 22 1) by simp only [pathS, ho]]
      refine hgo_sound 60 ?_
      simp -implicitDefEqProofs (maxSteps := 1000000) only [simpS, ↓condJ_true, ↓condJ_false, ↓reduceIte, Nat.reduceEqDiff, Nat.reduceLT, Nat.reduceLeDiff, reduceCtorEq, Nat.reduceAdd, Nat.reduceSub, Option.map_some, if_true, if_false, List.getD_cons_zero, List.getD_cons_succ, List.length_cons, List.length_nil, List.mem_cons, List.not_mem_nil, List.mem_append, List.nil_append, List.cons_append, List.append_nil, List.take_succ_cons, List.take_zero, List.drop_succ_cons, List.drop_zero, List.set_cons_zero, List.set_cons_succ, List.map_cons, List.map_nil, implies_true, forall_const, ne_eq, hd, hge, hlt2, Int.toNat_natCast, hget, encN_length, encN_take, encN_kids, encN_kind, hmi, encK_length, hl, Nat.reduceMul]
      exact fun hw2 hl2 hn2 => hend _ _ hT.symm rfl rfl (by rw [← hK]; rfl) hw2 hl2 hn2
    · have ho : tokOb 22 l.length = .tok 22 l.length := by simp [tokOb, hl]
      rw [show pathS σ z 22 ⟨m, l⟩ = ((σ.new (.box (encN m))).new (.box [.int .i64 z])).new (.tok 22 l.length) by simp only [pathS, ho]]
      refine hgo_sound 60 ?_
      simp -implicitDefEqProofs (maxSteps := 1000000) only [simpS, ↓condJ_true, ↓condJ_false, ↓reduceIte, Nat.reduceEqDiff, Nat.reduceLT, Nat.reduceLeDiff, reduceCtorEq, Nat.reduceAdd, Nat.reduceSub, Option.map_some, if_true, if_false, List.getD_cons_zero, List.getD_cons_succ, List.length_cons, List.length_nil, List.mem_cons, List.not_mem_nil, List.mem_append, List.nil_append, List.cons_append, List.append_nil, List.take_succ_cons, List.take_zero, List.drop_succ_cons, List.drop_zero, List.set_cons_zero, List.set_cons_succ, List.map_cons, List.map_nil, implies_true, forall_const, ne_eq, hd, hge, hlt2, Int.toNat_natCast, hget, encN_length, encN_take, encN_kids, encN_kind, hmi, encK_length, hb1, hb2]
      exact fun hw2 hl2 hn2 => hend _ _ hT.symm rfl rfl (by rw [← hK]; rfl) hw2 hl2 hn2

end Go.Hl
