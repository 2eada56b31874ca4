/-
  The law TreeWalks.
-/
import Derived.Test.YtlaljehmcacmjaaTrAj
import Derived.Test.YtlaljehmcacmjaaTrM
set_option linter.unusedSectionVars false
set_option linter.unusedVariables false
set_option linter.unusedSimpArgs false
set_option maxRecDepth 100000
namespace Go.Hl
open Go Go.Proofs

def tlC : HC → HC
  | .seq _ b => b
  | c => c
def hdC : HC → HC
  | .seq a _ => a
  | c => c

/-- What stands behind the document's answer. -/
def walksA : HC := tlC (tlC (tlC (tlC (tlC (tlC (tlC h4.body))))))

def wkS (σ : St) (n : Nd) (s : Int) (r : Bool) (W : List (Int × Nd)) : St :=
  (((((σ.new (.box (encN n))).new (.box [.int .i64 s])).new (.box [.bool r])).new (.box (encN n))).new (.box [.slice (.tok (σ.next + 5)) 6 (W.map stp)])).new (.tok 47 W.length)

def wkE (σ : St) (z : Int) (P : List Int) : Env := [(1, .int .i64 z), (3, .ptr σ.next 0), (5, .ptr (σ.next + 1) 0), (6, .ptr (σ.next + 2) 0), (9, .ptr (σ.next + 4) 0), (10, .slice .no 1 (encK P))]

/-- What is known where the walk begins. -/
structure WkH (M : Md) (σ : St) (n : Nd) : Prop where
  hP : M.P = Try.prog
  hr : M.r = none
  hnt : M.nt = 159
  hnx : M.gS.next = σ.next
  hwf : σ.wf
  fit : fitN n
  cnt : cntN n ≤ 2000
  sum : sumN n ≤ 2000

abbrev wkPost (M : Md) : HPost := FPost M.gS.next [HR.cell 6 none] (fun d x => d = D.bool true)

set_option maxHeartbeats 4000000 in
theorem treeWalks_calls (n : Nd) (z s : Int) (hfit : fitN n) (σ : St)
    (rest : ∀ M, WkH M σ n → HX M (wkPost M) [.code walksA] (wkE σ z (pathN z n)) (wkS σ n s false (walkN n))) :
    HCalls Try.prog 4 [.agg (encN n), .int .i64 z, .int .i64 s] σ (fun d _ => d = .bool true) := by
  refine hcalls_body (fn := Try.f4) rfl c4 (by simp [h4]) (by simp [h4, Try.f4]) ?_
  intro M hP hr hnt hnx hwf hlt
  have hnt' : M.nt = 159 := hnt
  simp only [h4, argEnv]
  refine hgo_sound 40 ?_
  simp -implicitDefEqProofs (maxSteps := 1000000) only [simpS, ↓condJ_true, ↓condJ_false, ↓reduceIte, Nat.reduceEqDiff, Nat.reduceLT, Nat.reduceLeDiff, reduceCtorEq, Nat.reduceAdd, Nat.reduceSub, Option.map_some, if_true, if_false, List.getD_cons_zero, List.getD_cons_succ, List.length_cons, List.length_nil, List.mem_cons, List.not_mem_nil, List.mem_append, List.nil_append, List.cons_append, List.append_nil, List.take_succ_cons, List.take_zero, List.drop_succ_cons, List.drop_zero, List.set_cons_zero, List.set_cons_succ, List.map_cons, List.map_nil, implies_true, forall_const, ne_eq]
  refine hx_call (f := .fn 7) rfl (by rw [hP]; exact hcallD_func (alive_calls _)) ?_
  rintro _ σ2 ⟨rfl, h⟩
  subst σ2
  refine hgo_sound 40 ?_
  simp -implicitDefEqProofs (maxSteps := 1000000) only [simpS, ↓condJ_true, ↓condJ_false, ↓reduceIte, Nat.reduceEqDiff, Nat.reduceLT, Nat.reduceLeDiff, reduceCtorEq, Nat.reduceAdd, Nat.reduceSub, Option.map_some, if_true, if_false, List.getD_cons_zero, List.getD_cons_succ, List.length_cons, List.length_nil, List.mem_cons, List.not_mem_nil, List.mem_append, List.nil_append, List.cons_append, List.append_nil, List.take_succ_cons, List.take_zero, List.drop_succ_cons, List.drop_zero, List.set_cons_zero, List.set_cons_succ, List.map_cons, List.map_nil, implies_true, forall_const, ne_eq, encN_length, encN_take]
  refine hx_call (f := .fn 8) rfl (by rw [hP]; exact hcallD_func (doc_calls _ n (Nat.le_refl _) hfit 2000 (by omega) (by omega) _)) ?_
  rintro _ σ2 ⟨⟨m, rfl, hm⟩, h⟩
  subst σ2
  by_cases hneg : docN n 2000 < 0
  · have hnd : decide (docN n 2000 < 0) = true := by simp [hneg]
    refine hgo_sound 60 ?_
    simp -implicitDefEqProofs (maxSteps := 1000000) only [simpS, ↓condJ_true, ↓condJ_false, ↓reduceIte, Nat.reduceEqDiff, Nat.reduceLT, Nat.reduceLeDiff, reduceCtorEq, Nat.reduceAdd, Nat.reduceSub, Option.map_some, if_true, if_false, List.getD_cons_zero, List.getD_cons_succ, List.length_cons, List.length_nil, List.mem_cons, List.not_mem_nil, List.mem_append, List.nil_append, List.cons_append, List.append_nil, List.take_succ_cons, List.take_zero, List.drop_succ_cons, List.drop_zero, List.set_cons_zero, List.set_cons_succ, List.map_cons, List.map_nil, implies_true, forall_const, ne_eq, encN_length, encN_take, hnd]
    exact fpost_pure (σ0 := σ) (.inr rfl) (by rw [hnx]; exact Nat.le_refl _) hwf (((((Ext.refl σ).new _).new _).new _).new _ |>.sub hwf) (ds := [.bool true]) (resD_cell (d := .bool true) rfl (by simp -implicitDefEqProofs (maxSteps := 1000000) only [simpS, ↓condJ_true, ↓condJ_false, ↓reduceIte, Nat.reduceEqDiff, Nat.reduceLT, Nat.reduceLeDiff, reduceCtorEq, Nat.reduceAdd, Nat.reduceSub, Option.map_some, if_true, if_false, List.getD_cons_zero, List.getD_cons_succ, List.length_cons, List.length_nil, List.mem_cons, List.not_mem_nil, List.mem_append, List.nil_append, List.cons_append, List.append_nil, List.take_succ_cons, List.take_zero, List.drop_succ_cons, List.drop_zero, List.set_cons_zero, List.set_cons_succ, List.map_cons, List.map_nil, implies_true, forall_const, ne_eq]) resD_nil) ⟨by decide, trivial⟩ trivial rfl
  have hnd : decide (docN n 2000 < 0) = false := by simp; omega
  have hmn := hm (by omega)
  subst m
  have hsum := sum_of_docN n 2000 (by omega)
  obtain ⟨hc1, hc2⟩ := docN_cost n 2000 (by omega)
  have hcn : cntN n ≤ 2000 := by omega
  have H : WkH M σ n := ⟨hP, hr, hnt', hnx, hwf, hfit, hcn, hsum⟩
  have hrn : rRightN n = rightN n := by rw [rRightN_all n (by omega), rightN_all n (by omega)]
  refine hgo_sound 60 ?_
  simp -implicitDefEqProofs (maxSteps := 1000000) only [simpS, ↓condJ_true, ↓condJ_false, ↓reduceIte, Nat.reduceEqDiff, Nat.reduceLT, Nat.reduceLeDiff, reduceCtorEq, Nat.reduceAdd, Nat.reduceSub, Option.map_some, if_true, if_false, List.getD_cons_zero, List.getD_cons_succ, List.length_cons, List.length_nil, List.mem_cons, List.not_mem_nil, List.mem_append, List.nil_append, List.cons_append, List.append_nil, List.take_succ_cons, List.take_zero, List.drop_succ_cons, List.drop_zero, List.set_cons_zero, List.set_cons_succ, List.map_cons, List.map_nil, implies_true, forall_const, ne_eq, encN_length, encN_take, hnd]
  refine hx_call (f := .fn 10) rfl (by rw [hP]; exact hcallD_func (rright_calls n (by omega) _)) ?_
  rintro _ σ2 ⟨rfl, h⟩
  subst σ2
  rw [hrn]
  cases hright : rightN n
  · refine hgo_sound 4 ?_
    simp -implicitDefEqProofs (maxSteps := 1000000) only [simpS, ↓condJ_true, ↓condJ_false, ↓reduceIte, Nat.reduceEqDiff, Nat.reduceLT, Nat.reduceLeDiff, reduceCtorEq, Nat.reduceAdd, Nat.reduceSub, Option.map_some, if_true, if_false, List.getD_cons_zero, List.getD_cons_succ, List.length_cons, List.length_nil, List.mem_cons, List.not_mem_nil, List.mem_append, List.nil_append, List.cons_append, List.append_nil, List.take_succ_cons, List.take_zero, List.drop_succ_cons, List.drop_zero, List.set_cons_zero, List.set_cons_succ, List.map_cons, List.map_nil, implies_true, forall_const, ne_eq]
    have hW : walkN n = [] := by unfold walkN; rw [hright]; rfl
    have hPn : pathN z n = [] := by unfold pathN; rw [hright]; rfl
    refine hx_full_box (id := σ.next + 4) (j := 0) (cs := [.slice .nil 0 []]) (ot := none) 47 6 (by simp -implicitDefEqProofs (maxSteps := 1000000) only [simpS, ↓condJ_true, ↓condJ_false, ↓reduceIte, Nat.reduceEqDiff, Nat.reduceLT, Nat.reduceLeDiff, reduceCtorEq, Nat.reduceAdd, Nat.reduceSub, Option.map_some, if_true, if_false, List.getD_cons_zero, List.getD_cons_succ, List.length_cons, List.length_nil, List.mem_cons, List.not_mem_nil, List.mem_append, List.nil_append, List.cons_append, List.append_nil, List.take_succ_cons, List.take_zero, List.drop_succ_cons, List.drop_zero, List.set_cons_zero, List.set_cons_succ, List.map_cons, List.map_nil, implies_true, forall_const, ne_eq]) rfl ?_ (fun _ e => by cases e) (fun _ e => by cases e)
    simp -implicitDefEqProofs (maxSteps := 1000000) only [simpS, ↓condJ_true, ↓condJ_false, ↓reduceIte, Nat.reduceEqDiff, Nat.reduceLT, Nat.reduceLeDiff, reduceCtorEq, Nat.reduceAdd, Nat.reduceSub, Option.map_some, if_true, if_false, List.getD_cons_zero, List.getD_cons_succ, List.length_cons, List.length_nil, List.mem_cons, List.not_mem_nil, List.mem_append, List.nil_append, List.cons_append, List.append_nil, List.take_succ_cons, List.take_zero, List.drop_succ_cons, List.drop_zero, List.set_cons_zero, List.set_cons_succ, List.map_cons, List.map_nil, implies_true, forall_const, ne_eq]
    refine hx_env (wkE σ z []) ?_ ?_ (fun _ e => by cases e) (fun _ e => by cases e)
    · exact ⟨fun _ _ _ h => h, fun _ _ _ h => h, fun _ _ _ h => h, fun _ _ _ h => h, fun _ _ _ h => h, fun _ _ _ h => R_nil_no h, trivial⟩
    have := rest M H
    rw [hW, hPn] at this
    exact this
  · refine hgo_sound 4 ?_
    simp -implicitDefEqProofs (maxSteps := 1000000) only [simpS, ↓condJ_true, ↓condJ_false, ↓reduceIte, Nat.reduceEqDiff, Nat.reduceLT, Nat.reduceLeDiff, reduceCtorEq, Nat.reduceAdd, Nat.reduceSub, Option.map_some, if_true, if_false, List.getD_cons_zero, List.getD_cons_succ, List.length_cons, List.length_nil, List.mem_cons, List.not_mem_nil, List.mem_append, List.nil_append, List.cons_append, List.append_nil, List.take_succ_cons, List.take_zero, List.drop_succ_cons, List.drop_zero, List.set_cons_zero, List.set_cons_succ, List.map_cons, List.map_nil, implies_true, forall_const, ne_eq]
    have hW : walkN n = preN 0 n := by unfold walkN; rw [hright]; rfl
    have hPn : pathN z n = rpathN z n := by unfold pathN rpathN; rw [hright]; simp
    have hl : [] ++ (preN 0 n).map stp = (preN 0 n).map stp := rfl
    have hlen := preN_len 0 n
    refine hx_drawgo 1 ?_
    simp -implicitDefEqProofs (maxSteps := 3000000) only [drawS, List.map_cons, List.map_nil, List.getElem?_cons_zero, List.getElem?_cons_succ, List.getElem?_nil, simpS, ↓condJ_true, ↓condJ_false, ↓reduceIte, Nat.reduceEqDiff, Nat.reduceLT, Nat.reduceLeDiff, reduceCtorEq, Nat.reduceAdd, Nat.reduceSub, Option.map_some, if_true, if_false, List.getD_cons_zero, List.getD_cons_succ, List.length_cons, List.length_nil, List.mem_cons, List.not_mem_nil, List.mem_append, List.nil_append, List.cons_append, List.append_nil, List.take_succ_cons, List.take_zero, List.drop_succ_cons, List.drop_zero, List.set_cons_zero, List.set_cons_succ, List.map_cons, List.map_nil, implies_true, forall_const, ne_eq, hnt', encN_length, encN_take]
    refine hd_call (i := 1) (f := .fn 18) (by simp -implicitDefEqProofs (maxSteps := 3000000) only [drawS, List.map_cons, List.map_nil, List.getElem?_cons_zero, List.getElem?_cons_succ, List.getElem?_nil, simpS, ↓condJ_true, ↓condJ_false, ↓reduceIte, Nat.reduceEqDiff, Nat.reduceLT, Nat.reduceLeDiff, reduceCtorEq, Nat.reduceAdd, Nat.reduceSub, Option.map_some, if_true, if_false, List.getD_cons_zero, List.getD_cons_succ, List.length_cons, List.length_nil, List.mem_cons, List.not_mem_nil, List.mem_append, List.nil_append, List.cons_append, List.append_nil, List.take_succ_cons, List.take_zero, List.drop_succ_cons, List.drop_zero, List.set_cons_zero, List.set_cons_succ, List.map_cons, List.map_nil, implies_true, forall_const, ne_eq, hnt', encN_length, encN_take]) (by rfl) (by rfl) rfl (by rfl) (by rw [hP]; exact hcallD_func (hcalls_nil (args := [_, _]) 47 6 (rwalk_calls _ n (Nat.le_refl _) 0 [] _ _ (Int.le_refl _) (by omega) (by simp only [List.length_nil]; omega) (by simp -implicitDefEqProofs (maxSteps := 1000000) only [simpS, ↓condJ_true, ↓condJ_false, ↓reduceIte, Nat.reduceEqDiff, Nat.reduceLT, Nat.reduceLeDiff, reduceCtorEq, Nat.reduceAdd, Nat.reduceSub, Option.map_some, if_true, if_false, List.getD_cons_zero, List.getD_cons_succ, List.length_cons, List.length_nil, List.mem_cons, List.not_mem_nil, List.mem_append, List.nil_append, List.cons_append, List.append_nil, List.take_succ_cons, List.take_zero, List.drop_succ_cons, List.drop_zero, List.set_cons_zero, List.set_cons_succ, List.map_cons, List.map_nil, implies_true, forall_const, ne_eq])))) ?_
    rintro _ σ2 ⟨rfl, h⟩
    subst σ2
    refine hdgo_sound 1 ?_
    simp -implicitDefEqProofs (maxSteps := 3000000) only [drawS, List.map_cons, List.map_nil, List.getElem?_cons_zero, List.getElem?_cons_succ, List.getElem?_nil, simpS, ↓condJ_true, ↓condJ_false, ↓reduceIte, Nat.reduceEqDiff, Nat.reduceLT, Nat.reduceLeDiff, reduceCtorEq, Nat.reduceAdd, Nat.reduceSub, Option.map_some, if_true, if_false, List.getD_cons_zero, List.getD_cons_succ, List.length_cons, List.length_nil, List.mem_cons, List.not_mem_nil, List.mem_append, List.nil_append, List.cons_append, List.append_nil, List.take_succ_cons, List.take_zero, List.drop_succ_cons, List.drop_zero, List.set_cons_zero, List.set_cons_succ, List.map_cons, List.map_nil, implies_true, forall_const, ne_eq, hnt', encN_length, encN_take]
    refine hd_call (i := 4) (f := .fn 19) (by simp -implicitDefEqProofs (maxSteps := 3000000) only [drawS, List.map_cons, List.map_nil, List.getElem?_cons_zero, List.getElem?_cons_succ, List.getElem?_nil, simpS, ↓condJ_true, ↓condJ_false, ↓reduceIte, Nat.reduceEqDiff, Nat.reduceLT, Nat.reduceLeDiff, reduceCtorEq, Nat.reduceAdd, Nat.reduceSub, Option.map_some, if_true, if_false, List.getD_cons_zero, List.getD_cons_succ, List.length_cons, List.length_nil, List.mem_cons, List.not_mem_nil, List.mem_append, List.nil_append, List.cons_append, List.append_nil, List.take_succ_cons, List.take_zero, List.drop_succ_cons, List.drop_zero, List.set_cons_zero, List.set_cons_succ, List.map_cons, List.map_nil, implies_true, forall_const, ne_eq, hnt', encN_length, encN_take]) (by rfl) (by rfl) rfl (by rfl) (by rw [hP]; exact hcallD_func (rpath_calls _ n (Nat.le_refl _) (by omega) z _)) ?_
    rintro _ σ2 ⟨rfl, h⟩
    subst σ2
    refine hdgo_sound 2 ?_
    simp -implicitDefEqProofs (maxSteps := 3000000) only [drawS, List.map_cons, List.map_nil, List.getElem?_cons_zero, List.getElem?_cons_succ, List.getElem?_nil, simpS, ↓condJ_true, ↓condJ_false, ↓reduceIte, Nat.reduceEqDiff, Nat.reduceLT, Nat.reduceLeDiff, reduceCtorEq, Nat.reduceAdd, Nat.reduceSub, Option.map_some, if_true, if_false, List.getD_cons_zero, List.getD_cons_succ, List.length_cons, List.length_nil, List.mem_cons, List.not_mem_nil, List.mem_append, List.nil_append, List.cons_append, List.append_nil, List.take_succ_cons, List.take_zero, List.drop_succ_cons, List.drop_zero, List.set_cons_zero, List.set_cons_succ, List.map_cons, List.map_nil, implies_true, forall_const, ne_eq, hnt', encN_length, encN_take]
    refine hx_env (wkE σ z (rpathN z n)) ?_ ?_ (fun _ e => by cases e) (fun _ e => by cases e)
    · exact ⟨fun _ _ _ h => h, fun _ _ _ h => h, fun _ _ _ h => h, fun _ _ _ h => h, fun _ _ _ h => h, fun _ _ _ h => h, trivial⟩
    have := rest M H
    rw [hW, hPn] at this
    exact this

end Go.Hl
