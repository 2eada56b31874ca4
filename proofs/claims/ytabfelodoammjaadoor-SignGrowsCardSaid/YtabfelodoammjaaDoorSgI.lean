/-
  Layer 5: the law SignGrows.
-/
import Derived.Test.YtabfelodoammjaaDoorSgH
set_option linter.unusedSectionVars false
set_option linter.unusedVariables false
set_option linter.unusedSimpArgs false
set_option maxRecDepth 100000
namespace Go.Hl
open Go Go.Proofs

theorem hgrpK_grd {σ : St} {env : Env} {t : Nat} {want x : Bool} {e : Env} {p : Prop} {tt : List Nat} {d : Nat} {g : Nat × Bool} {op : HO} {l2 : List HI} : hgrpK σ env t want x (some (e, p, tt, ⟨some d, some g, op⟩ :: l2)) = none := rfl

def gwA : HC := tlC (tlC (tlC (tlC (tlC h5.body))))
def gwB : HC := tlC gwA
def gwC : HC := tlC (tlC gwB)

structure GwH (M : Md) (σ : St) : Prop where
  hP : M.P = Tryd.prog
  hr : M.r = none
  hnt : M.nt = h5.nt
  hnx : M.gS.next = σ.next
  hwf : σ.wf
  hg : GK σ

abbrev gwPost (M : Md) : HPost := FPost M.gS.next [HR.cell 4 none] (fun d x => d = D.bool true)

abbrev gw1 (σ : St) : St := σ.new (.bx none [.bool false])
abbrev gw2 (σ : St) (c : Int) : St := (gw1 σ).new (.bx none [.int .i64 c])

theorem byte48 (s : ByteArray) (h : numE s = 0) (h1 : decide ((s.size : Int) > 1) = true) : (((s.data.getD 0 0).toNat : Int) == 48) = false := by
  have := (num_range s h).2.2 (by simpa using h1)
  simpa using this

theorem growC (s : ByteArray) (hs : s.size ≤ 1000) (b : UInt8) (σ : St) (M : Md) (H : GwH M σ) :
    HX M (gwPost M) [.code gwC] [(0, .str s), (4, .ptr σ.next 0), (6, .ptr (σ.next + 1) 0)] (gw2 σ 18).bump := by
  obtain ⟨hP, hr, hnt, hnx, hwf, hg⟩ := H
  have hs' : s.size ≤ 1099511627776 := by omega
  simp only [gwC, gwB, gwA, h5, tlC]
  refine hgo_sound 60 ?_
  simp -implicitDefEqProofs (maxSteps := 1000000) only [simpS, ↓condJ_true, ↓condJ_false, ↓reduceIte, Nat.reduceEqDiff, Nat.reduceLT, Nat.reduceLeDiff, reduceCtorEq, Nat.reduceAdd, Nat.reduceSub, bindG_none, addG_none, hgrpK_none, nestK_none, Option.map_none, Option.map_some, if_true, if_false, List.getD_cons_zero, List.getD_cons_succ, List.length_cons, List.length_nil, List.mem_cons, List.not_mem_nil, List.mem_append, List.nil_append, List.cons_append, List.append_nil, List.take_succ_cons, List.take_zero, List.drop_succ_cons, List.drop_zero, List.set_cons_zero, List.set_cons_succ, List.map_cons, List.map_nil, implies_true, forall_const, ne_eq, Bool.not_false, Bool.not_true, bb1, bb2, bb3, bb4, beq_self_eq_true, bne_self_eq_false, erD_zero, erD_eight, hgrpK_grd]
  refine hx_call (f := .fn 7) rfl (by rw [hP]; exact hcallD_func (number_calls s hs' _ (hg.to rfl))) ?_
  rintro _ σ2 ⟨rfl, h⟩
  subst σ2
  rcases (show numE s = 0 ∨ numE s = 2 by unfold numE; split <;> simp) with hE | hE
  · obtain ⟨r1, r2, _⟩ := num_range s hE
    have d1 : decide (numV s < 0) = false := by simp; omega
    have d2 : decide (numV s > 2147483647) = false := by simp; omega
    rw [hE]
    by_cases h1 : (s.size : Int) > 1
    · have d3 : decide ((s.size : Int) > 1) = true := by simp [h1]
      have hz : (0 : Int) < (s.size : Int) := by omega
      have d4 := byte48 s hE d3
      refine hgo_sound 60 ?_
      simp -implicitDefEqProofs (maxSteps := 1000000) only [simpS, ↓condJ_true, ↓condJ_false, ↓reduceIte, Nat.reduceEqDiff, Nat.reduceLT, Nat.reduceLeDiff, reduceCtorEq, Nat.reduceAdd, Nat.reduceSub, bindG_none, addG_none, hgrpK_none, nestK_none, Option.map_none, Option.map_some, if_true, if_false, List.getD_cons_zero, List.getD_cons_succ, List.length_cons, List.length_nil, List.mem_cons, List.not_mem_nil, List.mem_append, List.nil_append, List.cons_append, List.append_nil, List.take_succ_cons, List.take_zero, List.drop_succ_cons, List.drop_zero, List.set_cons_zero, List.set_cons_succ, List.map_cons, List.map_nil, implies_true, forall_const, ne_eq, Bool.not_false, Bool.not_true, bb1, bb2, bb3, bb4, beq_self_eq_true, bne_self_eq_false, erD_zero, erD_eight, hgrpK_grd, d1, d2, d3, d4, hz, Int.le_refl, show Int.toNat 0 = 0 from rfl]
      exact fpost_pure (σ0 := σ) (.inr rfl) (by rw [hnx]; exact Nat.le_refl _) hwf ((((Ext.refl σ).new _).new _).bump.sub hwf) (resD_cell (d := .bool true) rfl (by simp [St.obj_new, St.next_new, St.obj_bump]) resD_nil) ⟨by omega, trivial⟩ trivial rfl
    · have d3 : decide ((s.size : Int) > 1) = false := by simp; omega
      refine hgo_sound 60 ?_
      simp -implicitDefEqProofs (maxSteps := 1000000) only [simpS, ↓condJ_true, ↓condJ_false, ↓reduceIte, Nat.reduceEqDiff, Nat.reduceLT, Nat.reduceLeDiff, reduceCtorEq, Nat.reduceAdd, Nat.reduceSub, bindG_none, addG_none, hgrpK_none, nestK_none, Option.map_none, Option.map_some, if_true, if_false, List.getD_cons_zero, List.getD_cons_succ, List.length_cons, List.length_nil, List.mem_cons, List.not_mem_nil, List.mem_append, List.nil_append, List.cons_append, List.append_nil, List.take_succ_cons, List.take_zero, List.drop_succ_cons, List.drop_zero, List.set_cons_zero, List.set_cons_succ, List.map_cons, List.map_nil, implies_true, forall_const, ne_eq, Bool.not_false, Bool.not_true, bb1, bb2, bb3, bb4, beq_self_eq_true, bne_self_eq_false, erD_zero, erD_eight, hgrpK_grd, d1, d2, d3]
      exact fpost_pure (σ0 := σ) (.inr rfl) (by rw [hnx]; exact Nat.le_refl _) hwf ((((Ext.refl σ).new _).new _).bump.sub hwf) (resD_cell (d := .bool true) rfl (by simp [St.obj_new, St.next_new, St.obj_bump]) resD_nil) ⟨by omega, trivial⟩ trivial rfl
  · rw [hE, erD_two]
    refine hgo_sound 60 ?_
    simp -implicitDefEqProofs (maxSteps := 1000000) only [simpS, ↓condJ_true, ↓condJ_false, ↓reduceIte, Nat.reduceEqDiff, Nat.reduceLT, Nat.reduceLeDiff, reduceCtorEq, Nat.reduceAdd, Nat.reduceSub, bindG_none, addG_none, hgrpK_none, nestK_none, Option.map_none, Option.map_some, if_true, if_false, List.getD_cons_zero, List.getD_cons_succ, List.length_cons, List.length_nil, List.mem_cons, List.not_mem_nil, List.mem_append, List.nil_append, List.cons_append, List.append_nil, List.take_succ_cons, List.take_zero, List.drop_succ_cons, List.drop_zero, List.set_cons_zero, List.set_cons_succ, List.map_cons, List.map_nil, implies_true, forall_const, ne_eq, Bool.not_false, Bool.not_true, bb1, bb2, bb3, bb4, beq_self_eq_true, bne_self_eq_false, erD_zero, erD_eight, hgrpK_grd]
    exact fpost_pure (σ0 := σ) (.inr rfl) (by rw [hnx]; exact Nat.le_refl _) hwf ((((Ext.refl σ).new _).new _).bump.sub hwf) (resD_cell (d := .bool true) rfl (by simp [St.obj_new, St.next_new, St.obj_bump]) resD_nil) ⟨by omega, trivial⟩ trivial rfl

def gwStep (c : Int) (x : ByteArray) : Int × Option HC := (c + 1, none)
theorem gwStep_run : ∀ (l : List ByteArray) (c : Int), rngRun gwStep c l = (c + (l.length : Int), none)
  | [], c => by simp [rngRun]
  | x :: xs, c => by
    simp only [rngRun, gwStep]
    rw [gwStep_run xs (c + 1)]
    simp only [List.length_cons]
    congr 1
    omega
theorem gwStep_oks : ∀ (l : List ByteArray) (k : Nat), kwS.drop k = l → rngOks (fun (c : Int) (x : ByteArray) => ∃ k : Nat, c = k ∧ kwS[k]? = some x) gwStep (k : Int) l
  | [], k, _ => trivial
  | x :: xs, k, h => by
    refine ⟨⟨k, rfl, by rw [← List.head?_drop, h]; rfl⟩, fun _ => ?_⟩
    have := gwStep_oks xs (k + 1) (by rw [← List.tail_drop, h]; rfl)
    simpa [gwStep] using this

theorem growB (s : ByteArray) (hs : s.size ≤ 1000) (b : UInt8) (σ : St) (M : Md) (H : GwH M σ) :
    HX M (gwPost M) [.code gwB] [(0, .str s), (4, .ptr σ.next 0)] (gw1 σ) := by
  have rest := growC s hs b σ M H
  obtain ⟨hP, hr, hnt, hnx, hwf, hg⟩ := H
  have hs' : s.size ≤ 1099511627776 := by omega
  have hS : ∀ c : Int, (gw2 σ c).wf := fun c => (hwf.box (cs := [.bool false]) ⟨trivial, trivial⟩).box (cs := [.int .i64 c]) ⟨trivial, trivial⟩
  simp only [gwB, gwA, h5, tlC]
  refine hgo_sound 60 ?_
  simp -implicitDefEqProofs (maxSteps := 1000000) only [simpS, ↓condJ_true, ↓condJ_false, ↓reduceIte, Nat.reduceEqDiff, Nat.reduceLT, Nat.reduceLeDiff, reduceCtorEq, Nat.reduceAdd, Nat.reduceSub, bindG_none, addG_none, hgrpK_none, nestK_none, Option.map_none, Option.map_some, if_true, if_false, List.getD_cons_zero, List.getD_cons_succ, List.length_cons, List.length_nil, List.mem_cons, List.not_mem_nil, List.mem_append, List.nil_append, List.cons_append, List.append_nil, List.take_succ_cons, List.take_zero, List.drop_succ_cons, List.drop_zero, List.set_cons_zero, List.set_cons_succ, List.map_cons, List.map_nil, implies_true, forall_const, ne_eq, Bool.not_false, Bool.not_true, bb1, bb2, bb3, bb4, beq_self_eq_true, bne_self_eq_false, erD_zero, erD_eight, hgrpK_grd]
  refine hx_call (f := .fn 23) rfl (by rw [hP]; exact hcallD_func (keywords_calls _ (hg.to rfl))) ?_
  rintro _ σ2 ⟨rfl, h⟩
  subst σ2
  refine hgo_sound 6 ?_
  simp -implicitDefEqProofs (maxSteps := 1000000) only [simpS, ↓condJ_true, ↓condJ_false, ↓reduceIte, Nat.reduceEqDiff, Nat.reduceLT, Nat.reduceLeDiff, reduceCtorEq, Nat.reduceAdd, Nat.reduceSub, bindG_none, addG_none, hgrpK_none, nestK_none, Option.map_none, Option.map_some, if_true, if_false, List.getD_cons_zero, List.getD_cons_succ, List.length_cons, List.length_nil, List.mem_cons, List.not_mem_nil, List.mem_append, List.nil_append, List.cons_append, List.append_nil, List.take_succ_cons, List.take_zero, List.drop_succ_cons, List.drop_zero, List.set_cons_zero, List.set_cons_succ, List.map_cons, List.map_nil, implies_true, forall_const, ne_eq]
  refine hx_know_code fun hw hl hn1 => ?_
  refine hx_range_fold (fn := 37) (caps := [.eptr [.slice .no 1 (encW kwS)] 0]) (xs := kwS) (enc := fun s : ByteArray => [D.str s]) (fun c : Int => gw2 σ c)
    (fun (c : Int) (x : ByteArray) => ∃ k : Nat, c = k ∧ kwS[k]? = some x) gwStep 0 rfl (by rw [hP]; rfl) (fun _ _ h => by rw [hr] at h; cases h) (by rw [hP]; exact values_iter kwS (by decide)) rfl
    (fun c => rfl) (fun c c' => rfl) hS hl (gwStep_oks kwS 0 rfl) (fun _ => rfl) (by rw [hnt]; decide) ?_ ?_
  · rintro c x τ ⟨k, rfl, hkx⟩ hle hτ hgl M' hP' hnt' hr' hnx' hwf' hlt'
    simp only [St.next_new, Nat.add_assoc, Nat.reduceAdd] at hle hl ⊢
    have n1 : ¬ τ.next < σ.next + 3 := by omega
    have hg' : GK τ := hg.to hgl
    have hk2 : k < 18 := (List.getElem?_eq_some_iff.1 hkx).1
    have hxe : kwS[k] = x := (List.getElem?_eq_some_iff.1 hkx).2
    have hkw : isKw x = true := (memW_mem x kwS).2 (List.mem_of_getElem? hkx)
    obtain ⟨hxw, hxn⟩ := kw_word x hkw
    have kd : decide ((k : Int) ≥ 18) = false := by simp; omega
    have hkj : (k : Int) < (kwS.length : Int) := by have : kwS.length = 18 := rfl; omega
    have hwx : (encW kwS).getD k [] = [.str x] := by rw [encW_get kwS k hk2, hxe]
    have hwr : IntKind.i64.wrap ((k : Int) + 1) = (k : Int) + 1 := IntWalk.i64_in _ (by omega)
    have hxs : x.size ≤ 1099511627776 := by
      have : isWord x = true := hxw
      unfold isWord at this
      split at this
      · cases this
      · simp only [Bool.and_eq_true, decide_eq_true_eq] at this
        omega
    have hnt2 : M'.nt = 109 := hnt'.trans hnt
    simp only [putsE]
    refine hgo_sound 20 ?_
    simp -implicitDefEqProofs (maxSteps := 1000000) only [simpS, ↓condJ_true, ↓condJ_false, ↓reduceIte, Nat.reduceEqDiff, Nat.reduceLT, Nat.reduceLeDiff, reduceCtorEq, Nat.reduceAdd, Nat.reduceSub, bindG_none, addG_none, hgrpK_none, nestK_none, Option.map_none, Option.map_some, if_true, if_false, List.getD_cons_zero, List.getD_cons_succ, List.length_cons, List.length_nil, List.mem_cons, List.not_mem_nil, List.mem_append, List.nil_append, List.cons_append, List.append_nil, List.take_succ_cons, List.take_zero, List.drop_succ_cons, List.drop_zero, List.set_cons_zero, List.set_cons_succ, List.map_cons, List.map_nil, implies_true, forall_const, ne_eq, hle, n1]
    refine hgo_sound 3 ?_
    simp -implicitDefEqProofs (maxSteps := 1000000) only [simpS, ↓condJ_true, ↓condJ_false, ↓reduceIte, Nat.reduceEqDiff, Nat.reduceLT, Nat.reduceLeDiff, reduceCtorEq, Nat.reduceAdd, Nat.reduceSub, bindG_none, addG_none, hgrpK_none, nestK_none, Option.map_none, Option.map_some, if_true, if_false, List.getD_cons_zero, List.getD_cons_succ, List.length_cons, List.length_nil, List.mem_cons, List.not_mem_nil, List.mem_append, List.nil_append, List.cons_append, List.append_nil, List.take_succ_cons, List.take_zero, List.drop_succ_cons, List.drop_zero, List.set_cons_zero, List.set_cons_succ, List.map_cons, List.map_nil, implies_true, forall_const, ne_eq, hle, n1]
    refine hx_drawgo 1 ?_
    simp -implicitDefEqProofs (maxSteps := 3000000) only [drawS, List.map_cons, List.map_nil, List.getElem?_cons_zero, List.getElem?_cons_succ, List.getElem?_nil, simpS, ↓condJ_true, ↓condJ_false, ↓reduceIte, Nat.reduceEqDiff, Nat.reduceLT, Nat.reduceLeDiff, reduceCtorEq, Nat.reduceAdd, Nat.reduceSub, bindG_none, addG_none, hgrpK_none, nestK_none, Option.map_none, Option.map_some, if_true, if_false, List.getD_cons_zero, List.getD_cons_succ, List.length_cons, List.length_nil, List.mem_cons, List.not_mem_nil, List.mem_append, List.nil_append, List.cons_append, List.append_nil, List.take_succ_cons, List.take_zero, List.drop_succ_cons, List.drop_zero, List.set_cons_zero, List.set_cons_succ, List.map_cons, List.map_nil, implies_true, forall_const, ne_eq, hnt2, kd, hk2, hkj, Int.toNat_natCast, Int.natCast_nonneg, encW_length, hwx, beq_self_eq_true, bne_self_eq_false, Bool.not_false, Bool.not_true, bb1, bb2, bb3, bb4, erD_eight, hle, n1]
    refine hd_call (i := 1) (f := .fn 14) (by simp -implicitDefEqProofs (maxSteps := 3000000) only [drawS, List.map_cons, List.map_nil, List.getElem?_cons_zero, List.getElem?_cons_succ, List.getElem?_nil, simpS, ↓condJ_true, ↓condJ_false, ↓reduceIte, Nat.reduceEqDiff, Nat.reduceLT, Nat.reduceLeDiff, reduceCtorEq, Nat.reduceAdd, Nat.reduceSub, bindG_none, addG_none, hgrpK_none, nestK_none, Option.map_none, Option.map_some, if_true, if_false, List.getD_cons_zero, List.getD_cons_succ, List.length_cons, List.length_nil, List.mem_cons, List.not_mem_nil, List.mem_append, List.nil_append, List.cons_append, List.append_nil, List.take_succ_cons, List.take_zero, List.drop_succ_cons, List.drop_zero, List.set_cons_zero, List.set_cons_succ, List.map_cons, List.map_nil, implies_true, forall_const, ne_eq, hnt2, kd, hk2, hkj, Int.toNat_natCast, Int.natCast_nonneg, encW_length, hwx, beq_self_eq_true, bne_self_eq_false, Bool.not_false, Bool.not_true, bb1, bb2, bb3, bb4, erD_eight, hle, n1]) (by rfl) (by rfl) rfl (by rfl) (by rw [hP', hP]; exact hcallD_func (keyword_calls x _ (hg'.to rfl))) ?_
    rintro _ σ2 ⟨rfl, h⟩
    subst σ2
    rw [hkw]
    refine hdgo_sound 1 ?_
    simp -implicitDefEqProofs (maxSteps := 3000000) only [drawS, List.map_cons, List.map_nil, List.getElem?_cons_zero, List.getElem?_cons_succ, List.getElem?_nil, simpS, ↓condJ_true, ↓condJ_false, ↓reduceIte, Nat.reduceEqDiff, Nat.reduceLT, Nat.reduceLeDiff, reduceCtorEq, Nat.reduceAdd, Nat.reduceSub, bindG_none, addG_none, hgrpK_none, nestK_none, Option.map_none, Option.map_some, if_true, if_false, List.getD_cons_zero, List.getD_cons_succ, List.length_cons, List.length_nil, List.mem_cons, List.not_mem_nil, List.mem_append, List.nil_append, List.cons_append, List.append_nil, List.take_succ_cons, List.take_zero, List.drop_succ_cons, List.drop_zero, List.set_cons_zero, List.set_cons_succ, List.map_cons, List.map_nil, implies_true, forall_const, ne_eq, hnt2, kd, hk2, hkj, Int.toNat_natCast, Int.natCast_nonneg, encW_length, hwx, beq_self_eq_true, bne_self_eq_false, Bool.not_false, Bool.not_true, bb1, bb2, bb3, bb4, erD_eight, hle, n1]
    refine hd_call (i := 5) (f := .fn 9) (by simp -implicitDefEqProofs (maxSteps := 3000000) only [drawS, List.map_cons, List.map_nil, List.getElem?_cons_zero, List.getElem?_cons_succ, List.getElem?_nil, simpS, ↓condJ_true, ↓condJ_false, ↓reduceIte, Nat.reduceEqDiff, Nat.reduceLT, Nat.reduceLeDiff, reduceCtorEq, Nat.reduceAdd, Nat.reduceSub, bindG_none, addG_none, hgrpK_none, nestK_none, Option.map_none, Option.map_some, if_true, if_false, List.getD_cons_zero, List.getD_cons_succ, List.length_cons, List.length_nil, List.mem_cons, List.not_mem_nil, List.mem_append, List.nil_append, List.cons_append, List.append_nil, List.take_succ_cons, List.take_zero, List.drop_succ_cons, List.drop_zero, List.set_cons_zero, List.set_cons_succ, List.map_cons, List.map_nil, implies_true, forall_const, ne_eq, hnt2, kd, hk2, hkj, Int.toNat_natCast, Int.natCast_nonneg, encW_length, hwx, beq_self_eq_true, bne_self_eq_false, Bool.not_false, Bool.not_true, bb1, bb2, bb3, bb4, erD_eight, hle, n1]) (by rfl) (by rfl) rfl (by rfl) (by rw [hP', hP]; exact hcallD_func (name_calls x hxs _ (hg'.to rfl))) ?_
    rintro _ σ2 ⟨rfl, h⟩
    subst σ2
    rw [hxn, erD_eight]
    refine hdgo_sound 1 ?_
    simp -implicitDefEqProofs (maxSteps := 3000000) only [drawS, List.map_cons, List.map_nil, List.getElem?_cons_zero, List.getElem?_cons_succ, List.getElem?_nil, simpS, ↓condJ_true, ↓condJ_false, ↓reduceIte, Nat.reduceEqDiff, Nat.reduceLT, Nat.reduceLeDiff, reduceCtorEq, Nat.reduceAdd, Nat.reduceSub, bindG_none, addG_none, hgrpK_none, nestK_none, Option.map_none, Option.map_some, if_true, if_false, List.getD_cons_zero, List.getD_cons_succ, List.length_cons, List.length_nil, List.mem_cons, List.not_mem_nil, List.mem_append, List.nil_append, List.cons_append, List.append_nil, List.take_succ_cons, List.take_zero, List.drop_succ_cons, List.drop_zero, List.set_cons_zero, List.set_cons_succ, List.map_cons, List.map_nil, implies_true, forall_const, ne_eq, hnt2, kd, hk2, hkj, Int.toNat_natCast, Int.natCast_nonneg, encW_length, hwx, beq_self_eq_true, bne_self_eq_false, Bool.not_false, Bool.not_true, bb1, bb2, bb3, bb4, erD_eight, hle, n1]
    refine hd_call (i := 14) (f := .fn 24) (by simp -implicitDefEqProofs (maxSteps := 3000000) only [drawS, List.map_cons, List.map_nil, List.getElem?_cons_zero, List.getElem?_cons_succ, List.getElem?_nil, simpS, ↓condJ_true, ↓condJ_false, ↓reduceIte, Nat.reduceEqDiff, Nat.reduceLT, Nat.reduceLeDiff, reduceCtorEq, Nat.reduceAdd, Nat.reduceSub, bindG_none, addG_none, hgrpK_none, nestK_none, Option.map_none, Option.map_some, if_true, if_false, List.getD_cons_zero, List.getD_cons_succ, List.length_cons, List.length_nil, List.mem_cons, List.not_mem_nil, List.mem_append, List.nil_append, List.cons_append, List.append_nil, List.take_succ_cons, List.take_zero, List.drop_succ_cons, List.drop_zero, List.set_cons_zero, List.set_cons_succ, List.map_cons, List.map_nil, implies_true, forall_const, ne_eq, hnt2, kd, hk2, hkj, Int.toNat_natCast, Int.natCast_nonneg, encW_length, hwx, beq_self_eq_true, bne_self_eq_false, Bool.not_false, Bool.not_true, bb1, bb2, bb3, bb4, erD_eight, hle, n1]) (by rfl) (by rfl) rfl (by rfl) (by rw [hP', hP]; exact hcallD_func (rwords_calls _)) ?_
    rintro _ σ2 ⟨rfl, h⟩
    subst σ2
    refine hdgo_sound 1 ?_
    simp -implicitDefEqProofs (maxSteps := 3000000) only [drawS, List.map_cons, List.map_nil, List.getElem?_cons_zero, List.getElem?_cons_succ, List.getElem?_nil, simpS, ↓condJ_true, ↓condJ_false, ↓reduceIte, Nat.reduceEqDiff, Nat.reduceLT, Nat.reduceLeDiff, reduceCtorEq, Nat.reduceAdd, Nat.reduceSub, bindG_none, addG_none, hgrpK_none, nestK_none, Option.map_none, Option.map_some, if_true, if_false, List.getD_cons_zero, List.getD_cons_succ, List.length_cons, List.length_nil, List.mem_cons, List.not_mem_nil, List.mem_append, List.nil_append, List.cons_append, List.append_nil, List.take_succ_cons, List.take_zero, List.drop_succ_cons, List.drop_zero, List.set_cons_zero, List.set_cons_succ, List.map_cons, List.map_nil, implies_true, forall_const, ne_eq, hnt2, kd, hk2, hkj, Int.toNat_natCast, Int.natCast_nonneg, encW_length, hwx, beq_self_eq_true, bne_self_eq_false, Bool.not_false, Bool.not_true, bb1, bb2, bb3, bb4, erD_eight, hle, n1]
    refine hgo_sound 60 ?_
    simp -implicitDefEqProofs (maxSteps := 1000000) only [simpS, ↓condJ_true, ↓condJ_false, ↓reduceIte, Nat.reduceEqDiff, Nat.reduceLT, Nat.reduceLeDiff, reduceCtorEq, Nat.reduceAdd, Nat.reduceSub, bindG_none, addG_none, hgrpK_none, nestK_none, Option.map_none, Option.map_some, if_true, if_false, List.getD_cons_zero, List.getD_cons_succ, List.length_cons, List.length_nil, List.mem_cons, List.not_mem_nil, List.mem_append, List.nil_append, List.cons_append, List.append_nil, List.take_succ_cons, List.take_zero, List.drop_succ_cons, List.drop_zero, List.set_cons_zero, List.set_cons_succ, List.map_cons, List.map_nil, implies_true, forall_const, ne_eq, hle, n1, hwr]
    exact round_next rfl rfl (hS _) hl hτ hle (Ext.refl τ)
  · rw [gwStep_run]
    refine hx_inBlock ?_
    have h18 : (0 : Int) + (kwS.length : Int) = 18 := rfl
    simp only [h18]
    exact hx_env [(0, .str s), (4, .ptr σ.next 0), (6, .ptr (σ.next + 1) 0)] ⟨fun _ _ _ h => h, fun _ _ _ h => h, fun _ _ _ h => h, trivial⟩ rest (fun _ e => by cases e) (fun _ e => by cases e)

theorem growA (s : ByteArray) (hs : s.size ≤ 1000) (b : UInt8) (σ : St) (M : Md) (H : GwH M σ) :
    HX M (gwPost M) [.code gwA] [(0, .str s), (1, byD b), (4, .ptr σ.next 0)] (gw1 σ) := by
  have rest := growB s hs b σ M H
  obtain ⟨hP, hr, hnt, hnx, hwf, hg⟩ := H
  have hs' : s.size ≤ 1099511627776 := by omega
  simp only [gwA, h5, tlC]
  refine hgo_sound 60 ?_
  simp -implicitDefEqProofs (maxSteps := 1000000) only [simpS, ↓condJ_true, ↓condJ_false, ↓reduceIte, Nat.reduceEqDiff, Nat.reduceLT, Nat.reduceLeDiff, reduceCtorEq, Nat.reduceAdd, Nat.reduceSub, bindG_none, addG_none, hgrpK_none, nestK_none, Option.map_none, Option.map_some, if_true, if_false, List.getD_cons_zero, List.getD_cons_succ, List.length_cons, List.length_nil, List.mem_cons, List.not_mem_nil, List.mem_append, List.nil_append, List.cons_append, List.append_nil, List.take_succ_cons, List.take_zero, List.drop_succ_cons, List.drop_zero, List.set_cons_zero, List.set_cons_succ, List.map_cons, List.map_nil, implies_true, forall_const, ne_eq, Bool.not_false, Bool.not_true, bb1, bb2, bb3, bb4, beq_self_eq_true, bne_self_eq_false, erD_zero, erD_eight, hgrpK_grd]
  refine hx_call (f := .fn 18) rfl (by rw [hP]; exact hcallD_func (letter_calls b _)) ?_
  rintro _ σ2 ⟨rfl, h⟩
  subst σ2
  cases hL : isLet b
  · refine hgo_sound 60 ?_
    simp -implicitDefEqProofs (maxSteps := 1000000) only [simpS, ↓condJ_true, ↓condJ_false, ↓reduceIte, Nat.reduceEqDiff, Nat.reduceLT, Nat.reduceLeDiff, reduceCtorEq, Nat.reduceAdd, Nat.reduceSub, bindG_none, addG_none, hgrpK_none, nestK_none, Option.map_none, Option.map_some, if_true, if_false, List.getD_cons_zero, List.getD_cons_succ, List.length_cons, List.length_nil, List.mem_cons, List.not_mem_nil, List.mem_append, List.nil_append, List.cons_append, List.append_nil, List.take_succ_cons, List.take_zero, List.drop_succ_cons, List.drop_zero, List.set_cons_zero, List.set_cons_succ, List.map_cons, List.map_nil, implies_true, forall_const, ne_eq, Bool.not_false, Bool.not_true, bb1, bb2, bb3, bb4, beq_self_eq_true, bne_self_eq_false, erD_zero, erD_eight, hgrpK_grd]
    repeat
      refine hx_op_not (by rfl) (by rfl) ?_
      refine hgo_sound 60 ?_
      simp -implicitDefEqProofs (maxSteps := 1000000) only [simpS, ↓condJ_true, ↓condJ_false, ↓reduceIte, Nat.reduceEqDiff, Nat.reduceLT, Nat.reduceLeDiff, reduceCtorEq, Nat.reduceAdd, Nat.reduceSub, bindG_none, addG_none, hgrpK_none, nestK_none, Option.map_none, Option.map_some, if_true, if_false, List.getD_cons_zero, List.getD_cons_succ, List.length_cons, List.length_nil, List.mem_cons, List.not_mem_nil, List.mem_append, List.nil_append, List.cons_append, List.append_nil, List.take_succ_cons, List.take_zero, List.drop_succ_cons, List.drop_zero, List.set_cons_zero, List.set_cons_succ, List.map_cons, List.map_nil, implies_true, forall_const, ne_eq, Bool.not_false, Bool.not_true, bb1, bb2, bb3, bb4, beq_self_eq_true, bne_self_eq_false, erD_zero, erD_eight, hgrpK_grd]
    refine hx_call (f := .fn 14) rfl (by rw [hP]; exact hcallD_func (keyword_calls s _ (hg.to rfl))) ?_
    rintro _ σ2 ⟨rfl, h⟩
    subst σ2
    cases hk : isKw s
    · refine hgo_sound 60 ?_
      simp -implicitDefEqProofs (maxSteps := 1000000) only [simpS, ↓condJ_true, ↓condJ_false, ↓reduceIte, Nat.reduceEqDiff, Nat.reduceLT, Nat.reduceLeDiff, reduceCtorEq, Nat.reduceAdd, Nat.reduceSub, bindG_none, addG_none, hgrpK_none, nestK_none, Option.map_none, Option.map_some, if_true, if_false, List.getD_cons_zero, List.getD_cons_succ, List.length_cons, List.length_nil, List.mem_cons, List.not_mem_nil, List.mem_append, List.nil_append, List.cons_append, List.append_nil, List.take_succ_cons, List.take_zero, List.drop_succ_cons, List.drop_zero, List.set_cons_zero, List.set_cons_succ, List.map_cons, List.map_nil, implies_true, forall_const, ne_eq, Bool.not_false, Bool.not_true, bb1, bb2, bb3, bb4, beq_self_eq_true, bne_self_eq_false, erD_zero, erD_eight, hgrpK_grd]
      refine hx_op_not (by rfl) (by rfl) ?_
      refine hgo_sound 60 ?_
      simp -implicitDefEqProofs (maxSteps := 1000000) only [simpS, ↓condJ_true, ↓condJ_false, ↓reduceIte, Nat.reduceEqDiff, Nat.reduceLT, Nat.reduceLeDiff, reduceCtorEq, Nat.reduceAdd, Nat.reduceSub, bindG_none, addG_none, hgrpK_none, nestK_none, Option.map_none, Option.map_some, if_true, if_false, List.getD_cons_zero, List.getD_cons_succ, List.length_cons, List.length_nil, List.mem_cons, List.not_mem_nil, List.mem_append, List.nil_append, List.cons_append, List.append_nil, List.take_succ_cons, List.take_zero, List.drop_succ_cons, List.drop_zero, List.set_cons_zero, List.set_cons_succ, List.map_cons, List.map_nil, implies_true, forall_const, ne_eq, Bool.not_false, Bool.not_true, bb1, bb2, bb3, bb4, beq_self_eq_true, bne_self_eq_false, erD_zero, erD_eight, hgrpK_grd]
      refine hx_op_not (by rfl) (by rfl) ?_
      refine hgo_sound 10 ?_
      simp -implicitDefEqProofs (maxSteps := 1000000) only [simpS, ↓condJ_true, ↓condJ_false, ↓reduceIte, Nat.reduceEqDiff, Nat.reduceLT, Nat.reduceLeDiff, reduceCtorEq, Nat.reduceAdd, Nat.reduceSub, bindG_none, addG_none, hgrpK_none, nestK_none, Option.map_none, Option.map_some, if_true, if_false, List.getD_cons_zero, List.getD_cons_succ, List.length_cons, List.length_nil, List.mem_cons, List.not_mem_nil, List.mem_append, List.nil_append, List.cons_append, List.append_nil, List.take_succ_cons, List.take_zero, List.drop_succ_cons, List.drop_zero, List.set_cons_zero, List.set_cons_succ, List.map_cons, List.map_nil, implies_true, forall_const, ne_eq, Bool.not_false, Bool.not_true, bb1, bb2, bb3, bb4, beq_self_eq_true, bne_self_eq_false, erD_zero, erD_eight, hgrpK_grd]
      exact hx_env [(0, .str s), (4, .ptr σ.next 0)] ⟨fun _ _ _ h => h, fun _ _ _ h => h, trivial⟩ rest (fun _ e => by cases e) (fun _ e => by cases e)
    · obtain ⟨hkw, hkn⟩ := kw_word s hk
      refine hgo_sound 60 ?_
      simp -implicitDefEqProofs (maxSteps := 1000000) only [simpS, ↓condJ_true, ↓condJ_false, ↓reduceIte, Nat.reduceEqDiff, Nat.reduceLT, Nat.reduceLeDiff, reduceCtorEq, Nat.reduceAdd, Nat.reduceSub, bindG_none, addG_none, hgrpK_none, nestK_none, Option.map_none, Option.map_some, if_true, if_false, List.getD_cons_zero, List.getD_cons_succ, List.length_cons, List.length_nil, List.mem_cons, List.not_mem_nil, List.mem_append, List.nil_append, List.cons_append, List.append_nil, List.take_succ_cons, List.take_zero, List.drop_succ_cons, List.drop_zero, List.set_cons_zero, List.set_cons_succ, List.map_cons, List.map_nil, implies_true, forall_const, ne_eq, Bool.not_false, Bool.not_true, bb1, bb2, bb3, bb4, beq_self_eq_true, bne_self_eq_false, erD_zero, erD_eight, hgrpK_grd]
      refine hx_call (f := .fn 9) rfl (by rw [hP]; exact hcallD_func (name_calls s hs' _ (hg.to rfl))) ?_
      rintro _ σ2 ⟨rfl, h⟩
      subst σ2
      rw [hkn, erD_eight]
      refine hgo_sound 60 ?_
      simp -implicitDefEqProofs (maxSteps := 1000000) only [simpS, ↓condJ_true, ↓condJ_false, ↓reduceIte, Nat.reduceEqDiff, Nat.reduceLT, Nat.reduceLeDiff, reduceCtorEq, Nat.reduceAdd, Nat.reduceSub, bindG_none, addG_none, hgrpK_none, nestK_none, Option.map_none, Option.map_some, if_true, if_false, List.getD_cons_zero, List.getD_cons_succ, List.length_cons, List.length_nil, List.mem_cons, List.not_mem_nil, List.mem_append, List.nil_append, List.cons_append, List.append_nil, List.take_succ_cons, List.take_zero, List.drop_succ_cons, List.drop_zero, List.set_cons_zero, List.set_cons_succ, List.map_cons, List.map_nil, implies_true, forall_const, ne_eq, Bool.not_false, Bool.not_true, bb1, bb2, bb3, bb4, beq_self_eq_true, bne_self_eq_false, erD_zero, erD_eight, hgrpK_grd]
      refine hx_call (f := .fn 12) rfl (by rw [hP]; exact hcallD_func (word_calls s hs' _)) ?_
      rintro _ σ2 ⟨rfl, h⟩
      subst σ2
      rw [hkw]
      refine hgo_sound 10 ?_
      simp -implicitDefEqProofs (maxSteps := 1000000) only [simpS, ↓condJ_true, ↓condJ_false, ↓reduceIte, Nat.reduceEqDiff, Nat.reduceLT, Nat.reduceLeDiff, reduceCtorEq, Nat.reduceAdd, Nat.reduceSub, bindG_none, addG_none, hgrpK_none, nestK_none, Option.map_none, Option.map_some, if_true, if_false, List.getD_cons_zero, List.getD_cons_succ, List.length_cons, List.length_nil, List.mem_cons, List.not_mem_nil, List.mem_append, List.nil_append, List.cons_append, List.append_nil, List.take_succ_cons, List.take_zero, List.drop_succ_cons, List.drop_zero, List.set_cons_zero, List.set_cons_succ, List.map_cons, List.map_nil, implies_true, forall_const, ne_eq, Bool.not_false, Bool.not_true, bb1, bb2, bb3, bb4, beq_self_eq_true, bne_self_eq_false, erD_zero, erD_eight, hgrpK_grd]
      exact hx_env [(0, .str s), (4, .ptr σ.next 0)] ⟨fun _ _ _ h => h, fun _ _ _ h => h, trivial⟩ rest (fun _ e => by cases e) (fun _ e => by cases e)
  · have hF : isFig b = false := by have := let_fig b; rw [hL] at this; simpa using this
    refine hgo_sound 60 ?_
    simp -implicitDefEqProofs (maxSteps := 1000000) only [simpS, ↓condJ_true, ↓condJ_false, ↓reduceIte, Nat.reduceEqDiff, Nat.reduceLT, Nat.reduceLeDiff, reduceCtorEq, Nat.reduceAdd, Nat.reduceSub, bindG_none, addG_none, hgrpK_none, nestK_none, Option.map_none, Option.map_some, if_true, if_false, List.getD_cons_zero, List.getD_cons_succ, List.length_cons, List.length_nil, List.mem_cons, List.not_mem_nil, List.mem_append, List.nil_append, List.cons_append, List.append_nil, List.take_succ_cons, List.take_zero, List.drop_succ_cons, List.drop_zero, List.set_cons_zero, List.set_cons_succ, List.map_cons, List.map_nil, implies_true, forall_const, ne_eq, Bool.not_false, Bool.not_true, bb1, bb2, bb3, bb4, beq_self_eq_true, bne_self_eq_false, erD_zero, erD_eight, hgrpK_grd]
    refine hx_call (f := .fn 19) rfl (by rw [hP]; exact hcallD_func (figure_calls b _)) ?_
    rintro _ σ2 ⟨rfl, h⟩
    subst σ2
    rw [hF]
    refine hgo_sound 60 ?_
    simp -implicitDefEqProofs (maxSteps := 1000000) only [simpS, ↓condJ_true, ↓condJ_false, ↓reduceIte, Nat.reduceEqDiff, Nat.reduceLT, Nat.reduceLeDiff, reduceCtorEq, Nat.reduceAdd, Nat.reduceSub, bindG_none, addG_none, hgrpK_none, nestK_none, Option.map_none, Option.map_some, if_true, if_false, List.getD_cons_zero, List.getD_cons_succ, List.length_cons, List.length_nil, List.mem_cons, List.not_mem_nil, List.mem_append, List.nil_append, List.cons_append, List.append_nil, List.take_succ_cons, List.take_zero, List.drop_succ_cons, List.drop_zero, List.set_cons_zero, List.set_cons_succ, List.map_cons, List.map_nil, implies_true, forall_const, ne_eq, Bool.not_false, Bool.not_true, bb1, bb2, bb3, bb4, beq_self_eq_true, bne_self_eq_false, erD_zero, erD_eight, hgrpK_grd]
    refine hx_call (f := .fn 14) rfl (by rw [hP]; exact hcallD_func (keyword_calls s _ (hg.to rfl))) ?_
    rintro _ σ2 ⟨rfl, h⟩
    subst σ2
    cases hk : isKw s
    · refine hgo_sound 60 ?_
      simp -implicitDefEqProofs (maxSteps := 1000000) only [simpS, ↓condJ_true, ↓condJ_false, ↓reduceIte, Nat.reduceEqDiff, Nat.reduceLT, Nat.reduceLeDiff, reduceCtorEq, Nat.reduceAdd, Nat.reduceSub, bindG_none, addG_none, hgrpK_none, nestK_none, Option.map_none, Option.map_some, if_true, if_false, List.getD_cons_zero, List.getD_cons_succ, List.length_cons, List.length_nil, List.mem_cons, List.not_mem_nil, List.mem_append, List.nil_append, List.cons_append, List.append_nil, List.take_succ_cons, List.take_zero, List.drop_succ_cons, List.drop_zero, List.set_cons_zero, List.set_cons_succ, List.map_cons, List.map_nil, implies_true, forall_const, ne_eq, Bool.not_false, Bool.not_true, bb1, bb2, bb3, bb4, beq_self_eq_true, bne_self_eq_false, erD_zero, erD_eight, hgrpK_grd]
      refine hx_op_not (by rfl) (by rfl) ?_
      refine hgo_sound 60 ?_
      simp -implicitDefEqProofs (maxSteps := 1000000) only [simpS, ↓condJ_true, ↓condJ_false, ↓reduceIte, Nat.reduceEqDiff, Nat.reduceLT, Nat.reduceLeDiff, reduceCtorEq, Nat.reduceAdd, Nat.reduceSub, bindG_none, addG_none, hgrpK_none, nestK_none, Option.map_none, Option.map_some, if_true, if_false, List.getD_cons_zero, List.getD_cons_succ, List.length_cons, List.length_nil, List.mem_cons, List.not_mem_nil, List.mem_append, List.nil_append, List.cons_append, List.append_nil, List.take_succ_cons, List.take_zero, List.drop_succ_cons, List.drop_zero, List.set_cons_zero, List.set_cons_succ, List.map_cons, List.map_nil, implies_true, forall_const, ne_eq, Bool.not_false, Bool.not_true, bb1, bb2, bb3, bb4, beq_self_eq_true, bne_self_eq_false, erD_zero, erD_eight, hgrpK_grd]
      refine hx_op_not (by rfl) (by rfl) ?_
      refine hgo_sound 10 ?_
      simp -implicitDefEqProofs (maxSteps := 1000000) only [simpS, ↓condJ_true, ↓condJ_false, ↓reduceIte, Nat.reduceEqDiff, Nat.reduceLT, Nat.reduceLeDiff, reduceCtorEq, Nat.reduceAdd, Nat.reduceSub, bindG_none, addG_none, hgrpK_none, nestK_none, Option.map_none, Option.map_some, if_true, if_false, List.getD_cons_zero, List.getD_cons_succ, List.length_cons, List.length_nil, List.mem_cons, List.not_mem_nil, List.mem_append, List.nil_append, List.cons_append, List.append_nil, List.take_succ_cons, List.take_zero, List.drop_succ_cons, List.drop_zero, List.set_cons_zero, List.set_cons_succ, List.map_cons, List.map_nil, implies_true, forall_const, ne_eq, Bool.not_false, Bool.not_true, bb1, bb2, bb3, bb4, beq_self_eq_true, bne_self_eq_false, erD_zero, erD_eight, hgrpK_grd]
      exact hx_env [(0, .str s), (4, .ptr σ.next 0)] ⟨fun _ _ _ h => h, fun _ _ _ h => h, trivial⟩ rest (fun _ e => by cases e) (fun _ e => by cases e)
    · obtain ⟨hkw, hkn⟩ := kw_word s hk
      refine hgo_sound 60 ?_
      simp -implicitDefEqProofs (maxSteps := 1000000) only [simpS, ↓condJ_true, ↓condJ_false, ↓reduceIte, Nat.reduceEqDiff, Nat.reduceLT, Nat.reduceLeDiff, reduceCtorEq, Nat.reduceAdd, Nat.reduceSub, bindG_none, addG_none, hgrpK_none, nestK_none, Option.map_none, Option.map_some, if_true, if_false, List.getD_cons_zero, List.getD_cons_succ, List.length_cons, List.length_nil, List.mem_cons, List.not_mem_nil, List.mem_append, List.nil_append, List.cons_append, List.append_nil, List.take_succ_cons, List.take_zero, List.drop_succ_cons, List.drop_zero, List.set_cons_zero, List.set_cons_succ, List.map_cons, List.map_nil, implies_true, forall_const, ne_eq, Bool.not_false, Bool.not_true, bb1, bb2, bb3, bb4, beq_self_eq_true, bne_self_eq_false, erD_zero, erD_eight, hgrpK_grd]
      refine hx_call (f := .fn 9) rfl (by rw [hP]; exact hcallD_func (name_calls s hs' _ (hg.to rfl))) ?_
      rintro _ σ2 ⟨rfl, h⟩
      subst σ2
      rw [hkn, erD_eight]
      refine hgo_sound 60 ?_
      simp -implicitDefEqProofs (maxSteps := 1000000) only [simpS, ↓condJ_true, ↓condJ_false, ↓reduceIte, Nat.reduceEqDiff, Nat.reduceLT, Nat.reduceLeDiff, reduceCtorEq, Nat.reduceAdd, Nat.reduceSub, bindG_none, addG_none, hgrpK_none, nestK_none, Option.map_none, Option.map_some, if_true, if_false, List.getD_cons_zero, List.getD_cons_succ, List.length_cons, List.length_nil, List.mem_cons, List.not_mem_nil, List.mem_append, List.nil_append, List.cons_append, List.append_nil, List.take_succ_cons, List.take_zero, List.drop_succ_cons, List.drop_zero, List.set_cons_zero, List.set_cons_succ, List.map_cons, List.map_nil, implies_true, forall_const, ne_eq, Bool.not_false, Bool.not_true, bb1, bb2, bb3, bb4, beq_self_eq_true, bne_self_eq_false, erD_zero, erD_eight, hgrpK_grd]
      refine hx_call (f := .fn 12) rfl (by rw [hP]; exact hcallD_func (word_calls s hs' _)) ?_
      rintro _ σ2 ⟨rfl, h⟩
      subst σ2
      rw [hkw]
      refine hgo_sound 10 ?_
      simp -implicitDefEqProofs (maxSteps := 1000000) only [simpS, ↓condJ_true, ↓condJ_false, ↓reduceIte, Nat.reduceEqDiff, Nat.reduceLT, Nat.reduceLeDiff, reduceCtorEq, Nat.reduceAdd, Nat.reduceSub, bindG_none, addG_none, hgrpK_none, nestK_none, Option.map_none, Option.map_some, if_true, if_false, List.getD_cons_zero, List.getD_cons_succ, List.length_cons, List.length_nil, List.mem_cons, List.not_mem_nil, List.mem_append, List.nil_append, List.cons_append, List.append_nil, List.take_succ_cons, List.take_zero, List.drop_succ_cons, List.drop_zero, List.set_cons_zero, List.set_cons_succ, List.map_cons, List.map_nil, implies_true, forall_const, ne_eq, Bool.not_false, Bool.not_true, bb1, bb2, bb3, bb4, beq_self_eq_true, bne_self_eq_false, erD_zero, erD_eight, hgrpK_grd]
      exact hx_env [(0, .str s), (4, .ptr σ.next 0)] ⟨fun _ _ _ h => h, fun _ _ _ h => h, trivial⟩ rest (fun _ e => by cases e) (fun _ e => by cases e)

theorem signGrows_calls (s : ByteArray) (b : UInt8) (σ : St) (hg : GK σ) : HCalls Tryd.prog 5 [.str s, byD b] σ (fun d _ => d = .bool true) := by
  refine hcalls_body (fn := Tryd.f5) rfl c5 (by simp [h5]) (by simp [h5, Tryd.f5]) ?_
  intro M hP hr hnt hnx hwf hlt
  simp only [h5, argEnv]
  refine hgo_sound 60 ?_
  simp -implicitDefEqProofs (maxSteps := 1000000) only [simpS, ↓condJ_true, ↓condJ_false, ↓reduceIte, Nat.reduceEqDiff, Nat.reduceLT, Nat.reduceLeDiff, reduceCtorEq, Nat.reduceAdd, Nat.reduceSub, bindG_none, addG_none, hgrpK_none, nestK_none, Option.map_none, Option.map_some, if_true, if_false, List.getD_cons_zero, List.getD_cons_succ, List.length_cons, List.length_nil, List.mem_cons, List.not_mem_nil, List.mem_append, List.nil_append, List.cons_append, List.append_nil, List.take_succ_cons, List.take_zero, List.drop_succ_cons, List.drop_zero, List.set_cons_zero, List.set_cons_succ, List.map_cons, List.map_nil, implies_true, forall_const, ne_eq, Bool.not_false, Bool.not_true, bb1, bb2, bb3, bb4, beq_self_eq_true, bne_self_eq_false, erD_zero, erD_eight, hgrpK_grd]
  refine hx_call (f := .fn 6) rfl (by rw [hP]; exact hcallD_func (alive_calls _ (hg.to rfl))) ?_
  rintro _ σ2 ⟨rfl, h⟩
  subst σ2
  by_cases hl : (s.size : Int) > 1000
  · have hd : decide ((s.size : Int) > 1000) = true := by simp [hl]
    refine hgo_sound 60 ?_
    simp -implicitDefEqProofs (maxSteps := 1000000) only [simpS, ↓condJ_true, ↓condJ_false, ↓reduceIte, Nat.reduceEqDiff, Nat.reduceLT, Nat.reduceLeDiff, reduceCtorEq, Nat.reduceAdd, Nat.reduceSub, bindG_none, addG_none, hgrpK_none, nestK_none, Option.map_none, Option.map_some, if_true, if_false, List.getD_cons_zero, List.getD_cons_succ, List.length_cons, List.length_nil, List.mem_cons, List.not_mem_nil, List.mem_append, List.nil_append, List.cons_append, List.append_nil, List.take_succ_cons, List.take_zero, List.drop_succ_cons, List.drop_zero, List.set_cons_zero, List.set_cons_succ, List.map_cons, List.map_nil, implies_true, forall_const, ne_eq, Bool.not_false, Bool.not_true, bb1, bb2, bb3, bb4, beq_self_eq_true, bne_self_eq_false, erD_zero, erD_eight, hgrpK_grd, hd]
    exact fpost_pure (σ0 := σ) (.inr rfl) (by rw [hnx]; exact Nat.le_refl _) hwf (((Ext.refl σ).new _).sub hwf) (resD_cell (d := .bool true) rfl (by simp [St.obj_new, St.next_new, St.obj_bump]) resD_nil) ⟨by omega, trivial⟩ trivial rfl
  have hd : decide ((s.size : Int) > 1000) = false := by simp; omega
  have hs' : s.size ≤ 1099511627776 := by omega
  have rest := growA s (by omega) b σ M ⟨hP, hr, hnt, hnx, hwf, hg⟩
  have hb1 : bytesOk [[.int .u8 (b.toNat : Int)]] := bytesOk_map [b]
  have hbd : bytesD [[.int .u8 (b.toNat : Int)]] = ⟨#[b]⟩ := bytesD_map [b]
  have hsz := app_size s b
  refine hgo_sound 60 ?_
  simp -implicitDefEqProofs (maxSteps := 1000000) only [simpS, ↓condJ_true, ↓condJ_false, ↓reduceIte, Nat.reduceEqDiff, Nat.reduceLT, Nat.reduceLeDiff, reduceCtorEq, Nat.reduceAdd, Nat.reduceSub, bindG_none, addG_none, hgrpK_none, nestK_none, Option.map_none, Option.map_some, if_true, if_false, List.getD_cons_zero, List.getD_cons_succ, List.length_cons, List.length_nil, List.mem_cons, List.not_mem_nil, List.mem_append, List.nil_append, List.cons_append, List.append_nil, List.take_succ_cons, List.take_zero, List.drop_succ_cons, List.drop_zero, List.set_cons_zero, List.set_cons_succ, List.map_cons, List.map_nil, implies_true, forall_const, ne_eq, Bool.not_false, Bool.not_true, bb1, bb2, bb3, bb4, beq_self_eq_true, bne_self_eq_false, erD_zero, erD_eight, hgrpK_grd, hd, hbd]
  refine ⟨hb1, by show s.size + 1 ≤ _; omega, ?_⟩
  refine hx_call (f := .fn 12) rfl (by rw [hP]; exact hcallD_func (word_calls s hs' _)) ?_
  rintro _ σ2 ⟨rfl, h⟩
  subst σ2
  cases hw : isWord s
  · show HX _ _ _ _ _
    refine hgo_sound 60 ?_
    simp -implicitDefEqProofs (maxSteps := 1000000) only [simpS, ↓condJ_true, ↓condJ_false, ↓reduceIte, Nat.reduceEqDiff, Nat.reduceLT, Nat.reduceLeDiff, reduceCtorEq, Nat.reduceAdd, Nat.reduceSub, bindG_none, addG_none, hgrpK_none, nestK_none, Option.map_none, Option.map_some, if_true, if_false, List.getD_cons_zero, List.getD_cons_succ, List.length_cons, List.length_nil, List.mem_cons, List.not_mem_nil, List.mem_append, List.nil_append, List.cons_append, List.append_nil, List.take_succ_cons, List.take_zero, List.drop_succ_cons, List.drop_zero, List.set_cons_zero, List.set_cons_succ, List.map_cons, List.map_nil, implies_true, forall_const, ne_eq, Bool.not_false, Bool.not_true, bb1, bb2, bb3, bb4, beq_self_eq_true, bne_self_eq_false, erD_zero, erD_eight, hgrpK_grd]
    refine hx_op_not (by rfl) (by rfl) ?_
    refine hgo_sound 60 ?_
    simp -implicitDefEqProofs (maxSteps := 1000000) only [simpS, ↓condJ_true, ↓condJ_false, ↓reduceIte, Nat.reduceEqDiff, Nat.reduceLT, Nat.reduceLeDiff, reduceCtorEq, Nat.reduceAdd, Nat.reduceSub, bindG_none, addG_none, hgrpK_none, nestK_none, Option.map_none, Option.map_some, if_true, if_false, List.getD_cons_zero, List.getD_cons_succ, List.length_cons, List.length_nil, List.mem_cons, List.not_mem_nil, List.mem_append, List.nil_append, List.cons_append, List.append_nil, List.take_succ_cons, List.take_zero, List.drop_succ_cons, List.drop_zero, List.set_cons_zero, List.set_cons_succ, List.map_cons, List.map_nil, implies_true, forall_const, ne_eq, Bool.not_false, Bool.not_true, bb1, bb2, bb3, bb4, beq_self_eq_true, bne_self_eq_false, erD_zero, erD_eight, hgrpK_grd]
    refine hx_op_not (by rfl) (by rfl) ?_
    refine hgo_sound 60 ?_
    simp -implicitDefEqProofs (maxSteps := 1000000) only [simpS, ↓condJ_true, ↓condJ_false, ↓reduceIte, Nat.reduceEqDiff, Nat.reduceLT, Nat.reduceLeDiff, reduceCtorEq, Nat.reduceAdd, Nat.reduceSub, bindG_none, addG_none, hgrpK_none, nestK_none, Option.map_none, Option.map_some, if_true, if_false, List.getD_cons_zero, List.getD_cons_succ, List.length_cons, List.length_nil, List.mem_cons, List.not_mem_nil, List.mem_append, List.nil_append, List.cons_append, List.append_nil, List.take_succ_cons, List.take_zero, List.drop_succ_cons, List.drop_zero, List.set_cons_zero, List.set_cons_succ, List.map_cons, List.map_nil, implies_true, forall_const, ne_eq, Bool.not_false, Bool.not_true, bb1, bb2, bb3, bb4, beq_self_eq_true, bne_self_eq_false, erD_zero, erD_eight, hgrpK_grd]
    refine hx_op_not (by rfl) (by rfl) ?_
    refine hgo_sound 12 ?_
    simp -implicitDefEqProofs (maxSteps := 1000000) only [simpS, ↓condJ_true, ↓condJ_false, ↓reduceIte, Nat.reduceEqDiff, Nat.reduceLT, Nat.reduceLeDiff, reduceCtorEq, Nat.reduceAdd, Nat.reduceSub, bindG_none, addG_none, hgrpK_none, nestK_none, Option.map_none, Option.map_some, if_true, if_false, List.getD_cons_zero, List.getD_cons_succ, List.length_cons, List.length_nil, List.mem_cons, List.not_mem_nil, List.mem_append, List.nil_append, List.cons_append, List.append_nil, List.take_succ_cons, List.take_zero, List.drop_succ_cons, List.drop_zero, List.set_cons_zero, List.set_cons_succ, List.map_cons, List.map_nil, implies_true, forall_const, ne_eq, Bool.not_false, Bool.not_true, bb1, bb2, bb3, bb4, beq_self_eq_true, bne_self_eq_false, erD_zero, erD_eight, hgrpK_grd]
    exact hx_env [(0, .str s), (1, byD b), (4, .ptr σ.next 0)] ⟨fun _ _ _ h => h, fun _ _ _ h => h, fun _ _ _ h => h, trivial⟩ rest (fun _ e => by cases e) (fun _ e => by cases e)
  have hgw := grow_word s b hw
  refine hgo_sound 60 ?_
  simp -implicitDefEqProofs (maxSteps := 1000000) only [simpS, ↓condJ_true, ↓condJ_false, ↓reduceIte, Nat.reduceEqDiff, Nat.reduceLT, Nat.reduceLeDiff, reduceCtorEq, Nat.reduceAdd, Nat.reduceSub, bindG_none, addG_none, hgrpK_none, nestK_none, Option.map_none, Option.map_some, if_true, if_false, List.getD_cons_zero, List.getD_cons_succ, List.length_cons, List.length_nil, List.mem_cons, List.not_mem_nil, List.mem_append, List.nil_append, List.cons_append, List.append_nil, List.take_succ_cons, List.take_zero, List.drop_succ_cons, List.drop_zero, List.set_cons_zero, List.set_cons_succ, List.map_cons, List.map_nil, implies_true, forall_const, ne_eq, Bool.not_false, Bool.not_true, bb1, bb2, bb3, bb4, beq_self_eq_true, bne_self_eq_false, erD_zero, erD_eight, hgrpK_grd, hbd]
  refine hx_call (f := .fn 12) rfl (by rw [hP]; exact hcallD_func (word_calls (s ++ (⟨#[b]⟩ : ByteArray)) (by rw [hsz]; omega) _)) ?_
  rintro _ σ2 ⟨rfl, h⟩
  subst σ2
  rw [hgw]
  have h6 : decide (s.size < 64) = decide ((s.size : Int) < 64) := by simp; omega
  rw [h6]
  cases h64 : decide ((s.size : Int) < 64)
  · show HX _ _ _ _ _
    refine hgo_sound 60 ?_
    simp -implicitDefEqProofs (maxSteps := 1000000) only [simpS, ↓condJ_true, ↓condJ_false, ↓reduceIte, Nat.reduceEqDiff, Nat.reduceLT, Nat.reduceLeDiff, reduceCtorEq, Nat.reduceAdd, Nat.reduceSub, bindG_none, addG_none, hgrpK_none, nestK_none, Option.map_none, Option.map_some, if_true, if_false, List.getD_cons_zero, List.getD_cons_succ, List.length_cons, List.length_nil, List.mem_cons, List.not_mem_nil, List.mem_append, List.nil_append, List.cons_append, List.append_nil, List.take_succ_cons, List.take_zero, List.drop_succ_cons, List.drop_zero, List.set_cons_zero, List.set_cons_succ, List.map_cons, List.map_nil, implies_true, forall_const, ne_eq, Bool.not_false, Bool.not_true, bb1, bb2, bb3, bb4, beq_self_eq_true, bne_self_eq_false, erD_zero, erD_eight, hgrpK_grd, h64, Bool.false_and]
    refine hx_op_not (by rfl) (by rfl) ?_
    refine hgo_sound 60 ?_
    simp -implicitDefEqProofs (maxSteps := 1000000) only [simpS, ↓condJ_true, ↓condJ_false, ↓reduceIte, Nat.reduceEqDiff, Nat.reduceLT, Nat.reduceLeDiff, reduceCtorEq, Nat.reduceAdd, Nat.reduceSub, bindG_none, addG_none, hgrpK_none, nestK_none, Option.map_none, Option.map_some, if_true, if_false, List.getD_cons_zero, List.getD_cons_succ, List.length_cons, List.length_nil, List.mem_cons, List.not_mem_nil, List.mem_append, List.nil_append, List.cons_append, List.append_nil, List.take_succ_cons, List.take_zero, List.drop_succ_cons, List.drop_zero, List.set_cons_zero, List.set_cons_succ, List.map_cons, List.map_nil, implies_true, forall_const, ne_eq, Bool.not_false, Bool.not_true, bb1, bb2, bb3, bb4, beq_self_eq_true, bne_self_eq_false, erD_zero, erD_eight, hgrpK_grd, h64, Bool.false_and]
    refine hx_op_not (by rfl) (by rfl) ?_
    refine hgo_sound 8 ?_
    simp -implicitDefEqProofs (maxSteps := 1000000) only [simpS, ↓condJ_true, ↓condJ_false, ↓reduceIte, Nat.reduceEqDiff, Nat.reduceLT, Nat.reduceLeDiff, reduceCtorEq, Nat.reduceAdd, Nat.reduceSub, bindG_none, addG_none, hgrpK_none, nestK_none, Option.map_none, Option.map_some, if_true, if_false, List.getD_cons_zero, List.getD_cons_succ, List.length_cons, List.length_nil, List.mem_cons, List.not_mem_nil, List.mem_append, List.nil_append, List.cons_append, List.append_nil, List.take_succ_cons, List.take_zero, List.drop_succ_cons, List.drop_zero, List.set_cons_zero, List.set_cons_succ, List.map_cons, List.map_nil, implies_true, forall_const, ne_eq, Bool.not_false, Bool.not_true, bb1, bb2, bb3, bb4, beq_self_eq_true, bne_self_eq_false, erD_zero, erD_eight, hgrpK_grd, h64, Bool.false_and]
    exact hx_env [(0, .str s), (1, byD b), (4, .ptr σ.next 0)] ⟨fun _ _ _ h => h, fun _ _ _ h => h, fun _ _ _ h => h, trivial⟩ rest (fun _ e => by cases e) (fun _ e => by cases e)
  refine hgo_sound 60 ?_
  simp -implicitDefEqProofs (maxSteps := 1000000) only [simpS, ↓condJ_true, ↓condJ_false, ↓reduceIte, Nat.reduceEqDiff, Nat.reduceLT, Nat.reduceLeDiff, reduceCtorEq, Nat.reduceAdd, Nat.reduceSub, bindG_none, addG_none, hgrpK_none, nestK_none, Option.map_none, Option.map_some, if_true, if_false, List.getD_cons_zero, List.getD_cons_succ, List.length_cons, List.length_nil, List.mem_cons, List.not_mem_nil, List.mem_append, List.nil_append, List.cons_append, List.append_nil, List.take_succ_cons, List.take_zero, List.drop_succ_cons, List.drop_zero, List.set_cons_zero, List.set_cons_succ, List.map_cons, List.map_nil, implies_true, forall_const, ne_eq, Bool.not_false, Bool.not_true, bb1, bb2, bb3, bb4, beq_self_eq_true, bne_self_eq_false, erD_zero, erD_eight, hgrpK_grd, h64]
  refine hx_call (f := .fn 18) rfl (by rw [hP]; exact hcallD_func (letter_calls b _)) ?_
  rintro _ σ2 ⟨rfl, h⟩
  subst σ2
  cases hL : isLet b
  · refine hgo_sound 60 ?_
    simp -implicitDefEqProofs (maxSteps := 1000000) only [simpS, ↓condJ_true, ↓condJ_false, ↓reduceIte, Nat.reduceEqDiff, Nat.reduceLT, Nat.reduceLeDiff, reduceCtorEq, Nat.reduceAdd, Nat.reduceSub, bindG_none, addG_none, hgrpK_none, nestK_none, Option.map_none, Option.map_some, if_true, if_false, List.getD_cons_zero, List.getD_cons_succ, List.length_cons, List.length_nil, List.mem_cons, List.not_mem_nil, List.mem_append, List.nil_append, List.cons_append, List.append_nil, List.take_succ_cons, List.take_zero, List.drop_succ_cons, List.drop_zero, List.set_cons_zero, List.set_cons_succ, List.map_cons, List.map_nil, implies_true, forall_const, ne_eq, Bool.not_false, Bool.not_true, bb1, bb2, bb3, bb4, beq_self_eq_true, bne_self_eq_false, erD_zero, erD_eight, hgrpK_grd, h64]
    refine hx_call (f := .fn 19) rfl (by rw [hP]; exact hcallD_func (figure_calls b _)) ?_
    rintro _ σ2 ⟨rfl, h⟩
    subst σ2
    cases hF : isFig b
    · show HX _ _ _ _ _
      refine hgo_sound 8 ?_
      simp -implicitDefEqProofs (maxSteps := 1000000) only [simpS, ↓condJ_true, ↓condJ_false, ↓reduceIte, Nat.reduceEqDiff, Nat.reduceLT, Nat.reduceLeDiff, reduceCtorEq, Nat.reduceAdd, Nat.reduceSub, bindG_none, addG_none, hgrpK_none, nestK_none, Option.map_none, Option.map_some, if_true, if_false, List.getD_cons_zero, List.getD_cons_succ, List.length_cons, List.length_nil, List.mem_cons, List.not_mem_nil, List.mem_append, List.nil_append, List.cons_append, List.append_nil, List.take_succ_cons, List.take_zero, List.drop_succ_cons, List.drop_zero, List.set_cons_zero, List.set_cons_succ, List.map_cons, List.map_nil, implies_true, forall_const, ne_eq, Bool.not_false, Bool.not_true, bb1, bb2, bb3, bb4, beq_self_eq_true, bne_self_eq_false, erD_zero, erD_eight, hgrpK_grd, Bool.true_and, Bool.or_false, Bool.false_or]
      exact hx_env [(0, .str s), (1, byD b), (4, .ptr σ.next 0)] ⟨fun _ _ _ h => h, fun _ _ _ h => h, fun _ _ _ h => h, trivial⟩ rest (fun _ e => by cases e) (fun _ e => by cases e)
    · show HX _ _ _ _ _
      refine hgo_sound 8 ?_
      simp -implicitDefEqProofs (maxSteps := 1000000) only [simpS, ↓condJ_true, ↓condJ_false, ↓reduceIte, Nat.reduceEqDiff, Nat.reduceLT, Nat.reduceLeDiff, reduceCtorEq, Nat.reduceAdd, Nat.reduceSub, bindG_none, addG_none, hgrpK_none, nestK_none, Option.map_none, Option.map_some, if_true, if_false, List.getD_cons_zero, List.getD_cons_succ, List.length_cons, List.length_nil, List.mem_cons, List.not_mem_nil, List.mem_append, List.nil_append, List.cons_append, List.append_nil, List.take_succ_cons, List.take_zero, List.drop_succ_cons, List.drop_zero, List.set_cons_zero, List.set_cons_succ, List.map_cons, List.map_nil, implies_true, forall_const, ne_eq, Bool.not_false, Bool.not_true, bb1, bb2, bb3, bb4, beq_self_eq_true, bne_self_eq_false, erD_zero, erD_eight, hgrpK_grd, Bool.true_and, Bool.or_false, Bool.false_or]
      exact hx_env [(0, .str s), (1, byD b), (4, .ptr σ.next 0)] ⟨fun _ _ _ h => h, fun _ _ _ h => h, fun _ _ _ h => h, trivial⟩ rest (fun _ e => by cases e) (fun _ e => by cases e)
  · show HX _ _ _ _ _
    refine hgo_sound 60 ?_
    simp -implicitDefEqProofs (maxSteps := 1000000) only [simpS, ↓condJ_true, ↓condJ_false, ↓reduceIte, Nat.reduceEqDiff, Nat.reduceLT, Nat.reduceLeDiff, reduceCtorEq, Nat.reduceAdd, Nat.reduceSub, bindG_none, addG_none, hgrpK_none, nestK_none, Option.map_none, Option.map_some, if_true, if_false, List.getD_cons_zero, List.getD_cons_succ, List.length_cons, List.length_nil, List.mem_cons, List.not_mem_nil, List.mem_append, List.nil_append, List.cons_append, List.append_nil, List.take_succ_cons, List.take_zero, List.drop_succ_cons, List.drop_zero, List.set_cons_zero, List.set_cons_succ, List.map_cons, List.map_nil, implies_true, forall_const, ne_eq, Bool.not_false, Bool.not_true, bb1, bb2, bb3, bb4, beq_self_eq_true, bne_self_eq_false, erD_zero, erD_eight, hgrpK_grd, h64, Bool.true_and, Bool.true_or]
    refine hx_op_not (by rfl) (by rfl) ?_
    refine hgo_sound 8 ?_
    simp -implicitDefEqProofs (maxSteps := 1000000) only [simpS, ↓condJ_true, ↓condJ_false, ↓reduceIte, Nat.reduceEqDiff, Nat.reduceLT, Nat.reduceLeDiff, reduceCtorEq, Nat.reduceAdd, Nat.reduceSub, bindG_none, addG_none, hgrpK_none, nestK_none, Option.map_none, Option.map_some, if_true, if_false, List.getD_cons_zero, List.getD_cons_succ, List.length_cons, List.length_nil, List.mem_cons, List.not_mem_nil, List.mem_append, List.nil_append, List.cons_append, List.append_nil, List.take_succ_cons, List.take_zero, List.drop_succ_cons, List.drop_zero, List.set_cons_zero, List.set_cons_succ, List.map_cons, List.map_nil, implies_true, forall_const, ne_eq, Bool.not_false, Bool.not_true, bb1, bb2, bb3, bb4, beq_self_eq_true, bne_self_eq_false, erD_zero, erD_eight, hgrpK_grd, h64, Bool.true_and, Bool.true_or]
    exact hx_env [(0, .str s), (1, byD b), (4, .ptr σ.next 0)] ⟨fun _ _ _ h => h, fun _ _ _ h => h, fun _ _ _ h => h, trivial⟩ rest (fun _ e => by cases e) (fun _ e => by cases e)

end Go.Hl
