/-
  Layer 6: the law LexTokens.
-/
import Derived.Test.YteffbibilpbhjaaDoorLxF
set_option linter.unusedSectionVars false
set_option linter.unusedVariables false
set_option linter.unusedSimpArgs false
set_option maxRecDepth 100000
namespace Go.Hl
open Go Go.Proofs Go.RowKit

/-- stop, the result, what is wanted, how many -/
def ltS (σ : St) (st : Int) (r : Bool) (W : List Tk3) (k : Int) : St :=
  (((σ.new (.box [.int .i64 st])).new (.box [.bool r])).new (.box [.slice .no 3 (encTk W)])).new (.box [.int .i64 k])
theorem ltS_next (σ : St) (st : Int) (r : Bool) (W : List Tk3) (k : Int) : (ltS σ st r W k).next = σ.next + 4 := rfl
theorem ltS_glob (σ : St) (st : Int) (r : Bool) (W : List Tk3) (k : Int) : (ltS σ st r W k).glob = σ.glob := rfl
theorem ltS_0 (σ : St) (st : Int) (r : Bool) (W : List Tk3) (k : Int) : (ltS σ st r W k).obj σ.next = some (.bx none [.int .i64 st]) := by simp only [ltS, simpS, ↓condJ_true, ↓condJ_false, ↓reduceIte, Nat.reduceEqDiff, Nat.reduceLT, Nat.reduceLeDiff, reduceCtorEq, Nat.reduceAdd, Nat.reduceSub, bindG_none, addG_none, hgrpK_none, nestK_none, hgrpK_guarded, Option.map_none, beq_self_eq_true, bne_self_eq_false, Option.map_some, if_true, if_false, List.getD_cons_zero, List.getD_cons_succ, List.length_cons, List.length_nil, List.mem_cons, List.not_mem_nil, List.mem_append, List.nil_append, List.cons_append, List.append_nil, List.take_succ_cons, List.take_zero, List.drop_succ_cons, List.drop_zero, List.set_cons_zero, List.set_cons_succ, List.map_cons, List.map_nil, implies_true, forall_const, ne_eq]
theorem ltS_1 (σ : St) (st : Int) (r : Bool) (W : List Tk3) (k : Int) : (ltS σ st r W k).obj (σ.next + 1) = some (.bx none [.bool r]) := by simp only [ltS, simpS, ↓condJ_true, ↓condJ_false, ↓reduceIte, Nat.reduceEqDiff, Nat.reduceLT, Nat.reduceLeDiff, reduceCtorEq, Nat.reduceAdd, Nat.reduceSub, bindG_none, addG_none, hgrpK_none, nestK_none, hgrpK_guarded, Option.map_none, beq_self_eq_true, bne_self_eq_false, Option.map_some, if_true, if_false, List.getD_cons_zero, List.getD_cons_succ, List.length_cons, List.length_nil, List.mem_cons, List.not_mem_nil, List.mem_append, List.nil_append, List.cons_append, List.append_nil, List.take_succ_cons, List.take_zero, List.drop_succ_cons, List.drop_zero, List.set_cons_zero, List.set_cons_succ, List.map_cons, List.map_nil, implies_true, forall_const, ne_eq]
theorem ltS_2 (σ : St) (st : Int) (r : Bool) (W : List Tk3) (k : Int) : (ltS σ st r W k).obj (σ.next + 2) = some (.bx none [.slice .no 3 (encTk W)]) := by simp only [ltS, simpS, ↓condJ_true, ↓condJ_false, ↓reduceIte, Nat.reduceEqDiff, Nat.reduceLT, Nat.reduceLeDiff, reduceCtorEq, Nat.reduceAdd, Nat.reduceSub, bindG_none, addG_none, hgrpK_none, nestK_none, hgrpK_guarded, Option.map_none, beq_self_eq_true, bne_self_eq_false, Option.map_some, if_true, if_false, List.getD_cons_zero, List.getD_cons_succ, List.length_cons, List.length_nil, List.mem_cons, List.not_mem_nil, List.mem_append, List.nil_append, List.cons_append, List.append_nil, List.take_succ_cons, List.take_zero, List.drop_succ_cons, List.drop_zero, List.set_cons_zero, List.set_cons_succ, List.map_cons, List.map_nil, implies_true, forall_const, ne_eq]
theorem ltS_3 (σ : St) (st : Int) (r : Bool) (W : List Tk3) (k : Int) : (ltS σ st r W k).obj (σ.next + 3) = some (.bx none [.int .i64 k]) := by simp only [ltS, simpS, ↓condJ_true, ↓condJ_false, ↓reduceIte, Nat.reduceEqDiff, Nat.reduceLT, Nat.reduceLeDiff, reduceCtorEq, Nat.reduceAdd, Nat.reduceSub, bindG_none, addG_none, hgrpK_none, nestK_none, hgrpK_guarded, Option.map_none, beq_self_eq_true, bne_self_eq_false, Option.map_some, if_true, if_false, List.getD_cons_zero, List.getD_cons_succ, List.length_cons, List.length_nil, List.mem_cons, List.not_mem_nil, List.mem_append, List.nil_append, List.cons_append, List.append_nil, List.take_succ_cons, List.take_zero, List.drop_succ_cons, List.drop_zero, List.set_cons_zero, List.set_cons_succ, List.map_cons, List.map_nil, implies_true, forall_const, ne_eq]
theorem ltS_ext (σ : St) (st : Int) (r : Bool) (W : List Tk3) (k : Int) : Ext σ (ltS σ st r W k) := ((((Ext.refl σ).new _).new _).new _).new _
theorem ltS_wf {σ : St} (hw : σ.wf) (st : Int) (r : Bool) (W : List Tk3) (k : Int) : (ltS σ st r W k).wf :=
  (((hw.box (cs := [.int .i64 st]) ⟨trivial, trivial⟩).box (cs := [.bool r]) ⟨trivial, trivial⟩).box (cs := [.slice .no 3 (encTk W)]) ⟨encTk_slt _ _, trivial⟩).box (cs := [.int .i64 k]) ⟨trivial, trivial⟩
theorem ltS_put3 (σ : St) (st : Int) (r : Bool) (W : List Tk3) (k k' : Int) : (ltS σ st r W k).put (σ.next + 3) (.bx none [.int .i64 k']) = ltS σ st r W k' := by simp only [ltS, simpS, ↓condJ_true, ↓condJ_false, ↓reduceIte, Nat.reduceEqDiff, Nat.reduceLT, Nat.reduceLeDiff, reduceCtorEq, Nat.reduceAdd, Nat.reduceSub, bindG_none, addG_none, hgrpK_none, nestK_none, hgrpK_guarded, Option.map_none, beq_self_eq_true, bne_self_eq_false, Option.map_some, if_true, if_false, List.getD_cons_zero, List.getD_cons_succ, List.length_cons, List.length_nil, List.mem_cons, List.not_mem_nil, List.mem_append, List.nil_append, List.cons_append, List.append_nil, List.take_succ_cons, List.take_zero, List.drop_succ_cons, List.drop_zero, List.set_cons_zero, List.set_cons_succ, List.map_cons, List.map_nil, implies_true, forall_const, ne_eq]
theorem ltS_put1 (σ : St) (st : Int) (r : Bool) (W : List Tk3) (k : Int) (r' : Bool) : (ltS σ st r W k).put (σ.next + 1) (.bx none [.bool r']) = ltS σ st r' W k := by simp only [ltS, simpS, ↓condJ_true, ↓condJ_false, ↓reduceIte, Nat.reduceEqDiff, Nat.reduceLT, Nat.reduceLeDiff, reduceCtorEq, Nat.reduceAdd, Nat.reduceSub, bindG_none, addG_none, hgrpK_none, nestK_none, hgrpK_guarded, Option.map_none, beq_self_eq_true, bne_self_eq_false, Option.map_some, if_true, if_false, List.getD_cons_zero, List.getD_cons_succ, List.length_cons, List.length_nil, List.mem_cons, List.not_mem_nil, List.mem_append, List.nil_append, List.cons_append, List.append_nil, List.take_succ_cons, List.take_zero, List.drop_succ_cons, List.drop_zero, List.set_cons_zero, List.set_cons_succ, List.map_cons, List.map_nil, implies_true, forall_const, ne_eq]

structure LtH (M : Md) (σ : St) (s : ByteArray) : Prop where
  hP : M.P = Tryd.prog
  hr : M.r = none
  hnt : M.nt = h3.nt
  hnx : M.gS.next = σ.next
  hwf : σ.wf
  hs : s.size ≤ 4000
  hg : GM σ

abbrev ltPost (M : Md) : HPost := FPost M.gS.next [HR.cell 4 none] (fun d x => d = D.bool true)
def ltR : HC := tlC (tlC (tlC (tlC (tlC (tlC h3.body)))))
def ltB : HC := tlC ltR
def ltE (σ : St) (s : ByteArray) : Env := [(0, .str s), (3, .ptr σ.next 0), (4, .ptr (σ.next + 1) 0), (5, .ptr (σ.next + 2) 0), (6, .ptr (σ.next + 3) 0)]

theorem lt_fin {M : Md} {σ : St} (hnx : M.gS.next = σ.next) (hwf : σ.wf) {e : Env} {σ' : St} (he : Ext σ σ') (h6 : look e 4 = .ptr (σ.next + 1) 0) (ho : σ'.obj (σ.next + 1) = some (.bx none [.bool true])) : ltPost M .ret e σ' :=
  fpost_pure (σ0 := σ) (.inr rfl) (by rw [hnx]; exact Nat.le_refl _) hwf (he.sub hwf) (ds := [.bool true]) (resD_cell (d := .bool true) h6 ho resD_nil) ⟨by decide, trivial⟩ trivial rfl

theorem toks_le (s : ByteArray) : (toks s.data.toList 0).length ≤ s.size := by
  have hl := toks_length s.size s.data.toList 0 (by rw [len_list]; exact Nat.le_refl _)
  rwa [len_list] at hl

set_option maxHeartbeats 4000000 in
theorem ltB_ok (s : ByteArray) (st : Int) (σ : St) (M : Md) (H : LtH M σ s) :
    HX M (ltPost M) [.code ltB] (ltE σ s) (ltS σ st false (toks s.data.toList 0) (min st ((toks s.data.toList 0).length : Int))).bump := by
  obtain ⟨hP, hr, hnt, hnx, hwf, hs, hg⟩ := H
  have hnt' : M.nt = 74 := hnt
  have hbl := toks_le s
  have hk : (min st ((toks s.data.toList 0).length : Int) == if ((toks s.data.toList 0).length : Int) < st then ((toks s.data.toList 0).length : Int) else st) = true := by
    simp only [beq_iff_eq]
    split <;> omega
  have hg2 : GM (ltS σ st false (toks s.data.toList 0) (min st ((toks s.data.toList 0).length : Int))).bump := hg.to rfl
  simp only [ltB, ltR, h3, tlC, ltE]
  refine hgo_sound 60 ?_
  simp -implicitDefEqProofs (maxSteps := 1000000) only [simpS, ↓condJ_true, ↓condJ_false, ↓reduceIte, Nat.reduceEqDiff, Nat.reduceLT, Nat.reduceLeDiff, reduceCtorEq, Nat.reduceAdd, Nat.reduceSub, bindG_none, addG_none, hgrpK_none, nestK_none, hgrpK_guarded, Option.map_none, beq_self_eq_true, bne_self_eq_false, Option.map_some, if_true, if_false, List.getD_cons_zero, List.getD_cons_succ, List.length_cons, List.length_nil, List.mem_cons, List.not_mem_nil, List.mem_append, List.nil_append, List.cons_append, List.append_nil, List.take_succ_cons, List.take_zero, List.drop_succ_cons, List.drop_zero, List.set_cons_zero, List.set_cons_succ, List.map_cons, List.map_nil, implies_true, forall_const, ne_eq]
  refine hx_drawgo 1 ?_
  simp -implicitDefEqProofs (maxSteps := 100000000) only [drawS, List.map_cons, List.map_nil, List.getElem?_cons_zero, List.getElem?_cons_succ, List.getElem?_nil, simpS, ↓condJ_true, ↓condJ_false, ↓reduceIte, Nat.reduceEqDiff, Nat.reduceLT, Nat.reduceLeDiff, reduceCtorEq, Nat.reduceAdd, Nat.reduceSub, bindG_none, addG_none, hgrpK_none, nestK_none, hgrpK_guarded, Option.map_none, beq_self_eq_true, bne_self_eq_false, Option.map_some, if_true, if_false, List.getD_cons_zero, List.getD_cons_succ, List.length_cons, List.length_nil, List.mem_cons, List.not_mem_nil, List.mem_append, List.nil_append, List.cons_append, List.append_nil, List.take_succ_cons, List.take_zero, List.drop_succ_cons, List.drop_zero, List.set_cons_zero, List.set_cons_succ, List.map_cons, List.map_nil, implies_true, forall_const, ne_eq, hnt', ltS_0, ltS_1, ltS_2, ltS_3, ltS_next, ltS_put1, encTk_length, hk]
  refine hd_call (i := 1) (f := .fn 12) (by simp -implicitDefEqProofs (maxSteps := 100000000) only [drawS, List.map_cons, List.map_nil, List.getElem?_cons_zero, List.getElem?_cons_succ, List.getElem?_nil, simpS, ↓condJ_true, ↓condJ_false, ↓reduceIte, Nat.reduceEqDiff, Nat.reduceLT, Nat.reduceLeDiff, reduceCtorEq, Nat.reduceAdd, Nat.reduceSub, bindG_none, addG_none, hgrpK_none, nestK_none, hgrpK_guarded, Option.map_none, beq_self_eq_true, bne_self_eq_false, Option.map_some, if_true, if_false, List.getD_cons_zero, List.getD_cons_succ, List.length_cons, List.length_nil, List.mem_cons, List.not_mem_nil, List.mem_append, List.nil_append, List.cons_append, List.append_nil, List.take_succ_cons, List.take_zero, List.drop_succ_cons, List.drop_zero, List.set_cons_zero, List.set_cons_succ, List.map_cons, List.map_nil, implies_true, forall_const, ne_eq, hnt', ltS_0, ltS_1, ltS_2, ltS_3, ltS_next, ltS_put1, encTk_length, hk]) (by rfl) (by rfl) rfl (by rfl) (by rw [hP]; exact hcallD_func (list_calls s (by omega) _ hg2)) ?_
  rintro _ σ2 ⟨rfl, h⟩
  subst σ2
  refine hdgo_sound 1 ?_
  simp -implicitDefEqProofs (maxSteps := 3000000) only [drawS, List.map_cons, List.map_nil, List.getElem?_cons_zero, List.getElem?_cons_succ, List.getElem?_nil, simpS, ↓condJ_true, ↓condJ_false, ↓reduceIte, Nat.reduceEqDiff, Nat.reduceLT, Nat.reduceLeDiff, reduceCtorEq, Nat.reduceAdd, Nat.reduceSub, bindG_none, addG_none, hgrpK_none, nestK_none, hgrpK_guarded, Option.map_none, beq_self_eq_true, bne_self_eq_false, Option.map_some, if_true, if_false, List.getD_cons_zero, List.getD_cons_succ, List.length_cons, List.length_nil, List.mem_cons, List.not_mem_nil, List.mem_append, List.nil_append, List.cons_append, List.append_nil, List.take_succ_cons, List.take_zero, List.drop_succ_cons, List.drop_zero, List.set_cons_zero, List.set_cons_succ, List.map_cons, List.map_nil, implies_true, forall_const, ne_eq, hnt', ltS_0, ltS_1, ltS_2, ltS_3, ltS_next, ltS_put1, encTk_length, hk]
  refine hd_call (i := 3) (f := .fn 11) (by simp -implicitDefEqProofs (maxSteps := 100000000) only [drawS, List.map_cons, List.map_nil, List.getElem?_cons_zero, List.getElem?_cons_succ, List.getElem?_nil, simpS, ↓condJ_true, ↓condJ_false, ↓reduceIte, Nat.reduceEqDiff, Nat.reduceLT, Nat.reduceLeDiff, reduceCtorEq, Nat.reduceAdd, Nat.reduceSub, bindG_none, addG_none, hgrpK_none, nestK_none, hgrpK_guarded, Option.map_none, beq_self_eq_true, bne_self_eq_false, Option.map_some, if_true, if_false, List.getD_cons_zero, List.getD_cons_succ, List.length_cons, List.length_nil, List.mem_cons, List.not_mem_nil, List.mem_append, List.nil_append, List.cons_append, List.append_nil, List.take_succ_cons, List.take_zero, List.drop_succ_cons, List.drop_zero, List.set_cons_zero, List.set_cons_succ, List.map_cons, List.map_nil, implies_true, forall_const, ne_eq, hnt', ltS_0, ltS_1, ltS_2, ltS_3, ltS_next, ltS_put1, encTk_length, hk]) (by rfl) (by rfl) rfl (by rfl) (by rw [hP]; exact hcallD_func (same_calls _ (by omega) _)) ?_
  rintro _ σ2 ⟨rfl, h⟩
  subst σ2
  refine hdgo_sound 2 ?_
  simp -implicitDefEqProofs (maxSteps := 3000000) only [drawS, List.map_cons, List.map_nil, List.getElem?_cons_zero, List.getElem?_cons_succ, List.getElem?_nil, simpS, ↓condJ_true, ↓condJ_false, ↓reduceIte, Nat.reduceEqDiff, Nat.reduceLT, Nat.reduceLeDiff, reduceCtorEq, Nat.reduceAdd, Nat.reduceSub, bindG_none, addG_none, hgrpK_none, nestK_none, hgrpK_guarded, Option.map_none, beq_self_eq_true, bne_self_eq_false, Option.map_some, if_true, if_false, List.getD_cons_zero, List.getD_cons_succ, List.length_cons, List.length_nil, List.mem_cons, List.not_mem_nil, List.mem_append, List.nil_append, List.cons_append, List.append_nil, List.take_succ_cons, List.take_zero, List.drop_succ_cons, List.drop_zero, List.set_cons_zero, List.set_cons_succ, List.map_cons, List.map_nil, implies_true, forall_const, ne_eq, hnt', ltS_0, ltS_1, ltS_2, ltS_3, ltS_next, ltS_put1, encTk_length, hk]
  exact hx_ret (lt_fin hnx hwf (ltS_ext ..).bump rfl (ltS_1 ..))

set_option maxHeartbeats 4000000 in
theorem ltR_ok (s : ByteArray) (st : Int) (hst : 1 ≤ st ∧ st ≤ 40) (σ : St) (M : Md) (H : LtH M σ s) :
    HX M (ltPost M) [.code ltR] (ltE σ s) (ltS σ st false (toks s.data.toList 0) 0) := by
  have rest := ltB_ok s st σ M H
  obtain ⟨hP, hr, hnt, hnx, hwf, hs, hg⟩ := H
  have hnt' : M.nt = 74 := hnt
  have hbl := toks_le s
  have hgl : ∀ τ : St, τ.glob = (ltS σ st false (toks s.data.toList 0) 0).glob → GM τ := fun τ e => hg.to e
  generalize hW : toks s.data.toList 0 = W at *
  have hit := all_iter s (by omega) _ hgl
  rw [hW] at hit
  simp only [ltB, ltR, h3, tlC, ltE] at rest ⊢
  refine hgo_sound 6 ?_
  simp -implicitDefEqProofs (maxSteps := 1000000) only [simpS, ↓condJ_true, ↓condJ_false, ↓reduceIte, Nat.reduceEqDiff, Nat.reduceLT, Nat.reduceLeDiff, reduceCtorEq, Nat.reduceAdd, Nat.reduceSub, bindG_none, addG_none, hgrpK_none, nestK_none, hgrpK_guarded, Option.map_none, beq_self_eq_true, bne_self_eq_false, Option.map_some, if_true, if_false, List.getD_cons_zero, List.getD_cons_succ, List.length_cons, List.length_nil, List.mem_cons, List.not_mem_nil, List.mem_append, List.nil_append, List.cons_append, List.append_nil, List.take_succ_cons, List.take_zero, List.drop_succ_cons, List.drop_zero, List.set_cons_zero, List.set_cons_succ, List.map_cons, List.map_nil, implies_true, forall_const, ne_eq]
  refine hx_call (f := .fn 10) rfl (by rw [hP]; exact hcallD_func (all_calls s _)) ?_
  rintro _ σ2 ⟨rfl, h⟩
  subst σ2
  refine hgo_sound 6 ?_
  simp -implicitDefEqProofs (maxSteps := 1000000) only [simpS, ↓condJ_true, ↓condJ_false, ↓reduceIte, Nat.reduceEqDiff, Nat.reduceLT, Nat.reduceLeDiff, reduceCtorEq, Nat.reduceAdd, Nat.reduceSub, bindG_none, addG_none, hgrpK_none, nestK_none, hgrpK_guarded, Option.map_none, beq_self_eq_true, bne_self_eq_false, Option.map_some, if_true, if_false, List.getD_cons_zero, List.getD_cons_succ, List.length_cons, List.length_nil, List.mem_cons, List.not_mem_nil, List.mem_append, List.nil_append, List.cons_append, List.append_nil, List.take_succ_cons, List.take_zero, List.drop_succ_cons, List.drop_zero, List.set_cons_zero, List.set_cons_succ, List.map_cons, List.map_nil, implies_true, forall_const, ne_eq]
  refine hx_know_code fun hw6 hl6 hn6 => ?_
  have hS : ∀ k : Int, (ltS σ st false W k).wf := fun k => ltS_wf hwf ..
  refine hx_range_foldA (fn := 22) (caps := [.eptr [.str s] 0]) (xs := W) (enc := fun x => [D.agg (encK3 x)]) (fun k : Int => ltS σ st false W k)
    (fun (k : Int) (x : Tk3) => ∃ j : Nat, k = j ∧ W[j]? = some x) (cntStep 0 st) 0 rfl (by rw [hP]; rfl) (fun _ _ h => by rw [hr] at h; cases h) (by rw [hP]; exact hit) rfl
    (fun c => rfl) (fun c c' => rfl) hS hl6 (cntStep_oks _ _ _ _ 0 rfl) (fun _ => rfl) (by rw [hnt]; decide) ?_ ?_
  · rintro k x ρ ⟨j, rfl, hx⟩ hle hτ hgl2 M' hP' hnt2 hr' hnx' hwf' hlt'
    obtain ⟨hj, rfl⟩ := List.getElem?_eq_some_iff.1 hx
    have hg := encTk_get W j hj
    have hnt3 : M'.nt = 74 := by rw [hnt2, hnt']
    simp only [ltS_next, St.next_new, Nat.add_assoc, Nat.reduceAdd] at hle hl6 ⊢
    simp only [putsE]
    have n1 : ¬ ρ.next < σ.next + 5 := by omega
    have hd2 : decide ((j : Int) ≥ (W.length : Int)) = false := decide_eq_false (by omega)
    have hw2 : IntKind.i64.wrap ((j : Int) + 1) = (j : Int) + 1 := IntWalk.i64_in _ (by omega)
    have hjl : (j : Int) < (W.length : Int) := by omega
    have n2 : ¬ ρ.next + 1 < σ.next + 5 := by omega
    refine hgo_sound 60 ?_
    simp -implicitDefEqProofs (maxSteps := 1000000) only [simpS, ↓condJ_true, ↓condJ_false, ↓reduceIte, Nat.reduceEqDiff, Nat.reduceLT, Nat.reduceLeDiff, reduceCtorEq, Nat.reduceAdd, Nat.reduceSub, bindG_none, addG_none, hgrpK_none, nestK_none, hgrpK_guarded, Option.map_none, beq_self_eq_true, bne_self_eq_false, Option.map_some, if_true, if_false, List.getD_cons_zero, List.getD_cons_succ, List.length_cons, List.length_nil, List.mem_cons, List.not_mem_nil, List.mem_append, List.nil_append, List.cons_append, List.append_nil, List.take_succ_cons, List.take_zero, List.drop_succ_cons, List.drop_zero, List.set_cons_zero, List.set_cons_succ, List.map_cons, List.map_nil, implies_true, forall_const, ne_eq, hle, n1, ltS_next]
    refine hgo_sound 60 ?_
    simp -implicitDefEqProofs (maxSteps := 1000000) only [simpS, ↓condJ_true, ↓condJ_false, ↓reduceIte, Nat.reduceEqDiff, Nat.reduceLT, Nat.reduceLeDiff, reduceCtorEq, Nat.reduceAdd, Nat.reduceSub, bindG_none, addG_none, hgrpK_none, nestK_none, hgrpK_guarded, Option.map_none, beq_self_eq_true, bne_self_eq_false, Option.map_some, if_true, if_false, List.getD_cons_zero, List.getD_cons_succ, List.length_cons, List.length_nil, List.mem_cons, List.not_mem_nil, List.mem_append, List.nil_append, List.cons_append, List.append_nil, List.take_succ_cons, List.take_zero, List.drop_succ_cons, List.drop_zero, List.set_cons_zero, List.set_cons_succ, List.map_cons, List.map_nil, implies_true, forall_const, ne_eq, hle, n1, ltS_next]
    refine hx_drawgo 1 ?_
    simp -implicitDefEqProofs (maxSteps := 3000000) only [drawS, List.map_cons, List.map_nil, List.getElem?_cons_zero, List.getElem?_cons_succ, List.getElem?_nil, simpS, ↓condJ_true, ↓condJ_false, ↓reduceIte, Nat.reduceEqDiff, Nat.reduceLT, Nat.reduceLeDiff, reduceCtorEq, Nat.reduceAdd, Nat.reduceSub, bindG_none, addG_none, hgrpK_none, nestK_none, hgrpK_guarded, Option.map_none, beq_self_eq_true, bne_self_eq_false, Option.map_some, if_true, if_false, List.getD_cons_zero, List.getD_cons_succ, List.length_cons, List.length_nil, List.mem_cons, List.not_mem_nil, List.mem_append, List.nil_append, List.cons_append, List.append_nil, List.take_succ_cons, List.take_zero, List.drop_succ_cons, List.drop_zero, List.set_cons_zero, List.set_cons_succ, List.map_cons, List.map_nil, implies_true, forall_const, ne_eq, hnt3, hle, n1, n2, ltS_0, ltS_1, ltS_2, ltS_3, ltS_next, hd2, hg, hj, hjl, encTk_length, Int.toNat_natCast, Int.natCast_nonneg]
    by_cases he : (j : Int) + 1 = st
    · have hb : ((j : Int) + 1 == st) = true := by simp [he]
      have hs2 : cntStep 0 st (j : Int) W[j] = ((j : Int) + 1, some (.exit 0)) := by simp [cntStep, he]
      rw [hs2]
      refine hgo_sound 90 ?_
      simp -implicitDefEqProofs (maxSteps := 1000000) only [simpS, ↓condJ_true, ↓condJ_false, ↓reduceIte, Nat.reduceEqDiff, Nat.reduceLT, Nat.reduceLeDiff, reduceCtorEq, Nat.reduceAdd, Nat.reduceSub, bindG_none, addG_none, hgrpK_none, nestK_none, hgrpK_guarded, Option.map_none, beq_self_eq_true, bne_self_eq_false, Option.map_some, if_true, if_false, List.getD_cons_zero, List.getD_cons_succ, List.length_cons, List.length_nil, List.mem_cons, List.not_mem_nil, List.mem_append, List.nil_append, List.cons_append, List.append_nil, List.take_succ_cons, List.take_zero, List.drop_succ_cons, List.drop_zero, List.set_cons_zero, List.set_cons_succ, List.map_cons, List.map_nil, implies_true, forall_const, ne_eq, hle, n1, n2, ltS_0, ltS_1, ltS_2, ltS_3, ltS_put3, ltS_next, hw2, hb]
      exact hx_exit (round_exit rfl rfl (hS _) hl6 hτ hle ((Ext.refl ρ).new _))
    · have hb : ((j : Int) + 1 == st) = false := by simp [he]
      have hs2 : cntStep 0 st (j : Int) W[j] = ((j : Int) + 1, none) := by simp [cntStep, he]
      rw [hs2]
      refine hgo_sound 90 ?_
      simp -implicitDefEqProofs (maxSteps := 1000000) only [simpS, ↓condJ_true, ↓condJ_false, ↓reduceIte, Nat.reduceEqDiff, Nat.reduceLT, Nat.reduceLeDiff, reduceCtorEq, Nat.reduceAdd, Nat.reduceSub, bindG_none, addG_none, hgrpK_none, nestK_none, hgrpK_guarded, Option.map_none, beq_self_eq_true, bne_self_eq_false, Option.map_some, if_true, if_false, List.getD_cons_zero, List.getD_cons_succ, List.length_cons, List.length_nil, List.mem_cons, List.not_mem_nil, List.mem_append, List.nil_append, List.cons_append, List.append_nil, List.take_succ_cons, List.take_zero, List.drop_succ_cons, List.drop_zero, List.set_cons_zero, List.set_cons_succ, List.map_cons, List.map_nil, implies_true, forall_const, ne_eq, hle, n1, n2, ltS_0, ltS_1, ltS_2, ltS_3, ltS_put3, ltS_next, hw2, hb]
      exact round_next rfl rfl (hS _) hl6 hτ hle ((Ext.refl ρ).new _)
  · rw [cntStep_run _ _ _ _ (by omega), Int.zero_add]
    have hend2 : ∀ (e : Env), allW e (ltE σ s) → HX M (ltPost M) [.code ltB] e (ltS σ st false W (min st (W.length : Int))).bump := fun e he =>
      hx_env (ltE σ s) he (by simpa only [ltB, ltR, h3, tlC, ltE] using rest) (fun _ e => by cases e) (fun _ e => by cases e)
    by_cases hx : st ≤ (W.length : Int)
    · rw [if_pos hx]
      refine hx_exit ((if_pos rfl).mpr (?_ : HX M (ltPost M) _ _ _))
      exact hend2 _ ⟨fun _ _ _ h => h, fun _ _ _ h => h, fun _ _ _ h => h, fun _ _ _ h => h, fun _ _ _ h => h, trivial⟩
    · rw [if_neg hx]
      refine hx_inBlock ?_
      exact hend2 _ ⟨fun _ _ _ h => h, fun _ _ _ h => h, fun _ _ _ h => h, fun _ _ _ h => h, fun _ _ _ h => h, trivial⟩

set_option maxHeartbeats 4000000 in
theorem lexTokens_calls (s : ByteArray) (st : Int) (σ : St) (hg : GM σ) : HCalls Tryd.prog 3 [.str s, .int .i64 st] σ (fun d _ => d = .bool true) := by
  refine hcalls_body (fn := Tryd.f3) rfl c3 (by simp [h3]) (by simp [h3, Tryd.f3]) ?_
  intro M hP hr hnt hnx hwf hlt
  have rest := fun (hs : s.size ≤ 4000) => ltR_ok s (stopM 40 st) (stopM_pos 40 st (by decide) (by decide)) σ M ⟨hP, hr, hnt, hnx, hwf, hs, hg⟩
  simp only [ltR, h3, tlC, ltE, argEnv] at rest ⊢
  refine hgo_sound 60 ?_
  simp -implicitDefEqProofs (maxSteps := 1000000) only [simpS, ↓condJ_true, ↓condJ_false, ↓reduceIte, Nat.reduceEqDiff, Nat.reduceLT, Nat.reduceLeDiff, reduceCtorEq, Nat.reduceAdd, Nat.reduceSub, bindG_none, addG_none, hgrpK_none, nestK_none, hgrpK_guarded, Option.map_none, beq_self_eq_true, bne_self_eq_false, Option.map_some, if_true, if_false, List.getD_cons_zero, List.getD_cons_succ, List.length_cons, List.length_nil, List.mem_cons, List.not_mem_nil, List.mem_append, List.nil_append, List.cons_append, List.append_nil, List.take_succ_cons, List.take_zero, List.drop_succ_cons, List.drop_zero, List.set_cons_zero, List.set_cons_succ, List.map_cons, List.map_nil, implies_true, forall_const, ne_eq]
  refine hx_call (f := .fn 8) rfl (by rw [hP]; exact hcallD_func (alive_calls _ (hg.to rfl))) ?_
  rintro _ σ2 ⟨rfl, h⟩
  subst σ2
  by_cases hs : 4000 < s.size
  · have hd : decide ((s.size : Int) > 4000) = true := decide_eq_true (by omega)
    refine hgo_sound 60 ?_
    simp -implicitDefEqProofs (maxSteps := 1000000) only [simpS, ↓condJ_true, ↓condJ_false, ↓reduceIte, Nat.reduceEqDiff, Nat.reduceLT, Nat.reduceLeDiff, reduceCtorEq, Nat.reduceAdd, Nat.reduceSub, bindG_none, addG_none, hgrpK_none, nestK_none, hgrpK_guarded, Option.map_none, beq_self_eq_true, bne_self_eq_false, Option.map_some, if_true, if_false, List.getD_cons_zero, List.getD_cons_succ, List.length_cons, List.length_nil, List.mem_cons, List.not_mem_nil, List.mem_append, List.nil_append, List.cons_append, List.append_nil, List.take_succ_cons, List.take_zero, List.drop_succ_cons, List.drop_zero, List.set_cons_zero, List.set_cons_succ, List.map_cons, List.map_nil, implies_true, forall_const, ne_eq, hd]
    exact fpost_pure (σ0 := σ) (.inr rfl) (by rw [hnx]; exact Nat.le_refl _) hwf ((((Ext.refl σ).new _).new _).sub hwf) (resD_cell (d := .bool true) rfl (by simp [St.obj_new, St.next_new, St.obj_bump]) resD_nil) ⟨by omega, trivial⟩ trivial rfl
  have hd : decide ((s.size : Int) > 4000) = false := decide_eq_false (by omega)
  refine hgo_sound 60 ?_
  simp -implicitDefEqProofs (maxSteps := 1000000) only [simpS, ↓condJ_true, ↓condJ_false, ↓reduceIte, Nat.reduceEqDiff, Nat.reduceLT, Nat.reduceLeDiff, reduceCtorEq, Nat.reduceAdd, Nat.reduceSub, bindG_none, addG_none, hgrpK_none, nestK_none, hgrpK_guarded, Option.map_none, beq_self_eq_true, bne_self_eq_false, Option.map_some, if_true, if_false, List.getD_cons_zero, List.getD_cons_succ, List.length_cons, List.length_nil, List.mem_cons, List.not_mem_nil, List.mem_append, List.nil_append, List.cons_append, List.append_nil, List.take_succ_cons, List.take_zero, List.drop_succ_cons, List.drop_zero, List.set_cons_zero, List.set_cons_succ, List.map_cons, List.map_nil, implies_true, forall_const, ne_eq, hd]
  refine hx_call (f := .fn 9) rfl (by rw [hP]; exact hcallD_func (rlist_calls s (by omega) _)) ?_
  rintro _ σ2 ⟨rfl, h⟩
  subst σ2
  have hw : IntKind.i64.wrap (1 + IntKind.i64.wrap ((IntKind.u64.wrap st).tmod 40)) = stopM 40 st := rfl
  refine hgo_sound 24 ?_
  simp -implicitDefEqProofs (maxSteps := 1000000) only [simpS, ↓condJ_true, ↓condJ_false, ↓reduceIte, Nat.reduceEqDiff, Nat.reduceLT, Nat.reduceLeDiff, reduceCtorEq, Nat.reduceAdd, Nat.reduceSub, bindG_none, addG_none, hgrpK_none, nestK_none, hgrpK_guarded, Option.map_none, beq_self_eq_true, bne_self_eq_false, Option.map_some, if_true, if_false, List.getD_cons_zero, List.getD_cons_succ, List.length_cons, List.length_nil, List.mem_cons, List.not_mem_nil, List.mem_append, List.nil_append, List.cons_append, List.append_nil, List.take_succ_cons, List.take_zero, List.drop_succ_cons, List.drop_zero, List.set_cons_zero, List.set_cons_succ, List.map_cons, List.map_nil, implies_true, forall_const, ne_eq, hw]
  exact ⟨by decide, hx_env (ltE σ s) ⟨fun _ _ _ h => h, fun _ _ _ h => h, fun _ _ _ h => h, fun _ _ _ h => h, fun _ _ _ h => h, trivial⟩ (rest (by omega)) (fun _ e => by cases e) (fun _ e => by cases e)⟩

end Go.Hl
