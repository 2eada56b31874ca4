/-
  The law TreeWalks: the leaves are walked through, and the paths are compared.
-/
import Derived.Test.YtlaljehmcacmjaaTrAm
set_option linter.unusedSectionVars false
set_option linter.unusedVariables false
set_option linter.unusedSimpArgs false
set_option maxRecDepth 100000
namespace Go.Hl
open Go Go.Proofs

def lcStep (l : Int) (x : Nd) : Int × Option HC := (l + 1, none)
theorem lcStep_run : ∀ (xs : List Nd) (l : Int), rngRun lcStep l xs = (l + xs.length, none)
  | [], l => by simp [rngRun]
  | x :: xs, l => by
    simp only [rngRun, lcStep]
    rw [lcStep_run xs (l + 1)]
    simp only [List.length_cons]
    have : l + 1 + (xs.length : Int) = l + ((xs.length + 1 : Nat) : Int) := by omega
    rw [this]
theorem lcStep_oks (W : List Nd) : ∀ (xs : List Nd) (j : Nat), W.drop j = xs → rngOks (fun (k : Int) (x : Nd) => ∃ j : Nat, k = j ∧ W[j]? = some x) lcStep (j : Int) xs
  | [], j, _ => trivial
  | x :: xs, j, h => by
    have hx : W[j]? = some x := by
      have := congrArg (fun l => l[0]?) h
      simpa using this
    refine ⟨⟨j, rfl, hx⟩, fun _ => ?_⟩
    exact lcStep_oks W xs (j + 1) (by rw [← List.drop_drop, h]; rfl)

structure CpS where
  j : Nat

theorem encK_get (l : List Int) (j : Nat) (h : j < l.length) : (encK l).getD j [] = [.int .i64 l[j]] := by simp [encK, List.getD, h]

set_option maxHeartbeats 4000000 in
theorem walks3 (n : Nd) (z st : Int) (σ : St) (M : Md) (H : WkH M σ n) :
    HX M (wkPost M) [.code walksC] (wkE3 σ z (pathN z n)) (lvS σ n st (min st (walkN n).length) (walkN n) (lvA (leavesL (walkN n))) (lvB σ (leavesL (walkN n)))) := by
  have hW : (walkN n).length ≤ 2000 := by
    have := H.cnt
    unfold walkN
    split
    · rw [preN_len]; exact this
    · simp
  have hcn := H.cnt
  have hok : ∀ x ∈ walkN n, OkNd x.2 := fun x hx => okNd H.fit H.sum H.cnt x (walk_sub x hx)
  have hit := leaves_iter n (by omega)
  have hpc := path_calls n (by omega) z
  have hpl : (pathN z n).length ≤ 2000 := by
    have := pthN_len z n
    unfold pathN
    split
    · omega
    · simp
  generalize pathN z n = P at *
  generalize hWe : walkN n = W at *
  have hlen := map_stp_len W
  have hyl : (leavesL W).length ≤ W.length := leavesL_le W
  have hokl : ∀ x ∈ leavesL W, OkNd x := fun x hx => by
    obtain ⟨y, hy, rfl⟩ := leavesL_mem hx
    exact hok y hy
  generalize leavesL W = Lf at *
  have hyl2 : (encNs Lf).length = Lf.length := encNs_length Lf
  simp only [walksC, walksB, walksA, h4, tlC, wkE3]
  refine hgo_sound 20 ?_
  simp -implicitDefEqProofs (maxSteps := 1000000) only [simpS, ↓condJ_true, ↓condJ_false, ↓reduceIte, Nat.reduceEqDiff, Nat.reduceLT, Nat.reduceLeDiff, reduceCtorEq, Nat.reduceAdd, Nat.reduceSub, Option.map_some, if_true, if_false, List.getD_cons_zero, List.getD_cons_succ, List.length_cons, List.length_nil, List.mem_cons, List.not_mem_nil, List.mem_append, List.nil_append, List.cons_append, List.append_nil, List.take_succ_cons, List.take_zero, List.drop_succ_cons, List.drop_zero, List.set_cons_zero, List.set_cons_succ, List.map_cons, List.map_nil, implies_true, forall_const, ne_eq, lvS_0, lvS_next, encN_length, encN_take]
  refine hx_call (f := .fn 22) rfl (by rw [H.hP]; exact hcallD_func (leaves_calls n _)) ?_
  rintro _ σ2 ⟨rfl, h⟩
  subst σ2
  refine hgo_sound 6 ?_
  simp -implicitDefEqProofs (maxSteps := 1000000) only [simpS, ↓condJ_true, ↓condJ_false, ↓reduceIte, Nat.reduceEqDiff, Nat.reduceLT, Nat.reduceLeDiff, reduceCtorEq, Nat.reduceAdd, Nat.reduceSub, Option.map_some, if_true, if_false, List.getD_cons_zero, List.getD_cons_succ, List.length_cons, List.length_nil, List.mem_cons, List.not_mem_nil, List.mem_append, List.nil_append, List.cons_append, List.append_nil, List.take_succ_cons, List.take_zero, List.drop_succ_cons, List.drop_zero, List.set_cons_zero, List.set_cons_succ, List.map_cons, List.map_nil, implies_true, forall_const, ne_eq]
  refine hx_know_code fun hw2 hl2 hn2 => ?_
  have hS : ∀ l : Int, ((lvS σ n st (min st W.length) W (lvA Lf) (lvB σ Lf)).new (.box [.int .i64 l])).wf := fun l => (lvS_wf H.hwf _ _ _ _ _).box (cs := [.int .i64 l]) ⟨trivial, trivial⟩
  refine hx_range_fold (fn := 41) (caps := [.eptr (encN n) 0]) (xs := Lf) (enc := encL) (fun l => (lvS σ n st (min st W.length) W (lvA Lf) (lvB σ Lf)).new (.box [.int .i64 l]))
    (fun (k : Int) (x : Nd) => ∃ j : Nat, k = j ∧ Lf[j]? = some x) lcStep 0 rfl (by rw [H.hP]; rfl) (fun _ _ h => by rw [H.hr] at h; cases h) (by rw [H.hP]; exact hit) rfl
    (fun c => rfl) (fun c c' => rfl) hS hl2 (lcStep_oks Lf Lf 0 rfl) (fun _ => rfl) (by rw [H.hnt]; decide) ?_ ?_
  · rintro l x τ ⟨jj, rfl, hk⟩ hle hτ hgl M' hP' hnt2 hr' hnx' hwf' hlt'
    have hnt3 : M'.nt = 159 := by rw [hnt2, H.hnt]
    simp only [lvS_next, St.next_new, Nat.add_assoc, Nat.reduceAdd] at hle hl2 ⊢
    simp only [encL, putsE]
    have hjl : jj < Lf.length := (List.getElem?_eq_some_iff.1 hk).1
    have hjd : decide ((jj : Int) ≥ (Lf.length : Int)) = false := by simp; omega
    have hjp : ((jj : Int) < (Lf.length : Int)) := by omega
    have hget : (encNs Lf).getD jj [] = encN x := by rw [encNs_eq]; simp [List.getD, hk]
    have hokx := hokl _ (List.mem_of_getElem? hk)
    have n1 : ¬ τ.next < σ.next + 12 := by omega
    have n2 : ¬ τ.next + 1 < σ.next + 12 := by omega
    have hwr : IntKind.i64.wrap ((jj : Int) + 1) = (jj : Int) + 1 := IntWalk.i64_in _ (by omega)
    refine hgo_sound 30 ?_
    simp -implicitDefEqProofs (maxSteps := 1000000) only [simpS, ↓condJ_true, ↓condJ_false, ↓reduceIte, Nat.reduceEqDiff, Nat.reduceLT, Nat.reduceLeDiff, reduceCtorEq, Nat.reduceAdd, Nat.reduceSub, Option.map_some, if_true, if_false, List.getD_cons_zero, List.getD_cons_succ, List.length_cons, List.length_nil, List.mem_cons, List.not_mem_nil, List.mem_append, List.nil_append, List.cons_append, List.append_nil, List.take_succ_cons, List.take_zero, List.drop_succ_cons, List.drop_zero, List.set_cons_zero, List.set_cons_succ, List.map_cons, List.map_nil, implies_true, forall_const, ne_eq, encN_length, encN_take, lvS_next, hle, n1]
    refine hgo_sound 30 ?_
    simp -implicitDefEqProofs (maxSteps := 1000000) only [simpS, ↓condJ_true, ↓condJ_false, ↓reduceIte, Nat.reduceEqDiff, Nat.reduceLT, Nat.reduceLeDiff, reduceCtorEq, Nat.reduceAdd, Nat.reduceSub, Option.map_some, if_true, if_false, List.getD_cons_zero, List.getD_cons_succ, List.length_cons, List.length_nil, List.mem_cons, List.not_mem_nil, List.mem_append, List.nil_append, List.cons_append, List.append_nil, List.take_succ_cons, List.take_zero, List.drop_succ_cons, List.drop_zero, List.set_cons_zero, List.set_cons_succ, List.map_cons, List.map_nil, implies_true, forall_const, ne_eq, encN_length, encN_take, lvS_next, hle, n1]
    refine hx_drawgo 1 ?_
    simp -implicitDefEqProofs (maxSteps := 3000000) only [drawS, List.map_cons, List.map_nil, List.getElem?_cons_zero, List.getElem?_cons_succ, List.getElem?_nil, simpS, ↓condJ_true, ↓condJ_false, ↓reduceIte, Nat.reduceEqDiff, Nat.reduceLT, Nat.reduceLeDiff, reduceCtorEq, Nat.reduceAdd, Nat.reduceSub, Option.map_some, if_true, if_false, List.getD_cons_zero, List.getD_cons_succ, List.length_cons, List.length_nil, List.mem_cons, List.not_mem_nil, List.mem_append, List.nil_append, List.cons_append, List.append_nil, List.take_succ_cons, List.take_zero, List.drop_succ_cons, List.drop_zero, List.set_cons_zero, List.set_cons_succ, List.map_cons, List.map_nil, implies_true, forall_const, ne_eq, hnt3, encN_length, encN_take, lvS_0, lvS_1, lvS_2, lvS_4, lvS_6, lvS_8, lvS_9, lvS_next, lvA, lvB, hle, n1, n2, hget, hyl2, hjd, hjp, hjl, hwr, Int.toNat_natCast, Int.natCast_nonneg, bne_self_eq_false, beq_self_eq_true]
    refine hd_call (i := 10) (f := .fn 21) (by simp -implicitDefEqProofs (maxSteps := 3000000) only [drawS, List.map_cons, List.map_nil, List.getElem?_cons_zero, List.getElem?_cons_succ, List.getElem?_nil, simpS, ↓condJ_true, ↓condJ_false, ↓reduceIte, Nat.reduceEqDiff, Nat.reduceLT, Nat.reduceLeDiff, reduceCtorEq, Nat.reduceAdd, Nat.reduceSub, Option.map_some, if_true, if_false, List.getD_cons_zero, List.getD_cons_succ, List.length_cons, List.length_nil, List.mem_cons, List.not_mem_nil, List.mem_append, List.nil_append, List.cons_append, List.append_nil, List.take_succ_cons, List.take_zero, List.drop_succ_cons, List.drop_zero, List.set_cons_zero, List.set_cons_succ, List.map_cons, List.map_nil, implies_true, forall_const, ne_eq, hnt3, encN_length, encN_take, lvS_0, lvS_1, lvS_2, lvS_4, lvS_6, lvS_8, lvS_9, lvS_next, lvA, lvB, hle, n1, n2, hget, hyl2, hjd, hjp, hjl, hwr, Int.toNat_natCast, Int.natCast_nonneg, bne_self_eq_false, beq_self_eq_true]) (by rfl) (by rfl) rfl (by rfl) (by rw [hP', H.hP]; exact hcallD_func (is_calls x x hokx.fit hokx.cnt _)) ?_
    rintro _ σ2 ⟨rfl, h⟩
    subst σ2
    rw [hokx.is_]
    refine hdgo_sound 1 ?_
    simp -implicitDefEqProofs (maxSteps := 3000000) only [drawS, List.map_cons, List.map_nil, List.getElem?_cons_zero, List.getElem?_cons_succ, List.getElem?_nil, simpS, ↓condJ_true, ↓condJ_false, ↓reduceIte, Nat.reduceEqDiff, Nat.reduceLT, Nat.reduceLeDiff, reduceCtorEq, Nat.reduceAdd, Nat.reduceSub, Option.map_some, if_true, if_false, List.getD_cons_zero, List.getD_cons_succ, List.length_cons, List.length_nil, List.mem_cons, List.not_mem_nil, List.mem_append, List.nil_append, List.cons_append, List.append_nil, List.take_succ_cons, List.take_zero, List.drop_succ_cons, List.drop_zero, List.set_cons_zero, List.set_cons_succ, List.map_cons, List.map_nil, implies_true, forall_const, ne_eq, hnt3, encN_length, encN_take, lvS_0, lvS_1, lvS_2, lvS_4, lvS_6, lvS_8, lvS_9, lvS_next, lvA, lvB, hle, n1, n2, hget, hyl2, hjd, hjp, hjl, hwr, Int.toNat_natCast, Int.natCast_nonneg, bne_self_eq_false, beq_self_eq_true]
    have hs : lcStep (jj : Int) x = ((jj : Int) + 1, none) := rfl
    rw [hs]
    refine hgo_sound 60 ?_
    simp -implicitDefEqProofs (maxSteps := 1000000) only [simpS, ↓condJ_true, ↓condJ_false, ↓reduceIte, Nat.reduceEqDiff, Nat.reduceLT, Nat.reduceLeDiff, reduceCtorEq, Nat.reduceAdd, Nat.reduceSub, Option.map_some, if_true, if_false, List.getD_cons_zero, List.getD_cons_succ, List.length_cons, List.length_nil, List.mem_cons, List.not_mem_nil, List.mem_append, List.nil_append, List.cons_append, List.append_nil, List.take_succ_cons, List.take_zero, List.drop_succ_cons, List.drop_zero, List.set_cons_zero, List.set_cons_succ, List.map_cons, List.map_nil, implies_true, forall_const, ne_eq, encN_length, encN_take, lvS_0, lvS_1, lvS_2, lvS_4, lvS_6, lvS_8, lvS_9, lvS_next, lvA, lvB, hle, n1, n2, hget, hyl2, hjd, hjp, hjl, hwr, Int.toNat_natCast, Int.natCast_nonneg, bne_self_eq_false, beq_self_eq_true]
    exact round_next rfl rfl (hS _) hl2 hτ hle (((Ext.refl τ).new _))
  · rw [lcStep_run, Int.zero_add]
    refine hx_inBlock ?_
    have hd1 : ((Lf.length : Int) != (Lf.length : Int)) = false := by simp
    have hd2 : ((P.length : Int) != (P.length : Int)) = false := by simp
    refine hgo_sound 20 ?_
    simp -implicitDefEqProofs (maxSteps := 1000000) only [simpS, ↓condJ_true, ↓condJ_false, ↓reduceIte, Nat.reduceEqDiff, Nat.reduceLT, Nat.reduceLeDiff, reduceCtorEq, Nat.reduceAdd, Nat.reduceSub, Option.map_some, if_true, if_false, List.getD_cons_zero, List.getD_cons_succ, List.length_cons, List.length_nil, List.mem_cons, List.not_mem_nil, List.mem_append, List.nil_append, List.cons_append, List.append_nil, List.take_succ_cons, List.take_zero, List.drop_succ_cons, List.drop_zero, List.set_cons_zero, List.set_cons_succ, List.map_cons, List.map_nil, implies_true, forall_const, ne_eq, lvS_0, lvS_next, encN_length, encN_take]
    refine hx_call (f := .fn 23) rfl (by rw [H.hP]; exact hcallD_func (hpc _)) ?_
    rintro _ σ2 ⟨rfl, h⟩
    subst σ2
    refine hgo_sound 60 ?_
    simp -implicitDefEqProofs (maxSteps := 1000000) only [simpS, ↓condJ_true, ↓condJ_false, ↓reduceIte, Nat.reduceEqDiff, Nat.reduceLT, Nat.reduceLeDiff, reduceCtorEq, Nat.reduceAdd, Nat.reduceSub, Option.map_some, if_true, if_false, List.getD_cons_zero, List.getD_cons_succ, List.length_cons, List.length_nil, List.mem_cons, List.not_mem_nil, List.mem_append, List.nil_append, List.cons_append, List.append_nil, List.take_succ_cons, List.take_zero, List.drop_succ_cons, List.drop_zero, List.set_cons_zero, List.set_cons_succ, List.map_cons, List.map_nil, implies_true, forall_const, ne_eq, lvS_9, lvS_8, lvA, lvB, lvS_next, encK_length, hd1, hd2, hyl2]
    refine hx_know_code fun hw3 hl3 hn3 => ?_
    refine hx_loop (S := CpS) (fun t => [(5, .ptr (σ.next + 1) 0), (6, .ptr (σ.next + 2) 0), (9, .ptr (σ.next + 4) 0), (10, .slice .no 1 (encK P)), (13, .ptr (σ.next + 6) 0), (21, .slice .no 1 (encK P)), (139, .int .i64 (P.length : Int)), (140, .int .i64 t.j)])
      (fun t => ((lvS σ n st (min st W.length) W (lvA Lf) (lvB σ Lf)).new (.box [.int .i64 (Lf.length : Int)])).bump) (fun t => t.j ≤ P.length) (fun t => P.length - t.j) ⟨0⟩ (Nat.zero_le _) (fun _ _ h => by rw [H.hr] at h; cases h) ?_ ?_
    · refine Drop.all hw3 hn3 ⟨⟨rfl, ?_⟩, ⟨rfl, ?_⟩, ⟨rfl, ?_⟩, ⟨rfl, ⟨trivial, encK_lt _ _⟩⟩, ⟨rfl, ?_⟩, ⟨rfl, ⟨trivial, encK_lt _ _⟩⟩, ⟨rfl, trivial⟩, ⟨rfl, trivial⟩, trivial⟩
      all_goals (simp only [D.lt, Own.lt, lvS_next, St.next_bump, St.next_new]; omega)
    rintro ⟨j⟩ j1
    simp only at j1 ⊢
    by_cases hj : j < P.length
    · have hjd : decide (((j : Nat) : Int) < (P.length : Int)) = true := by simp [hj]
      have hjp : ((j : Int) < (P.length : Int)) := by omega
      have hget : (encK P).getD j [] = [.int .i64 P[j]] := encK_get P j hj
      have hne : (P[j] != P[j]) = false := by simp
      have hnt3 : M.nt = 159 := H.hnt
      have hwr : IntKind.i64.wrap ((j : Int) + 1) = ((j + 1 : Nat) : Int) := by rw [IntWalk.i64_in _ (by omega)]; rfl
      refine hgo_sound 30 ?_
      simp -implicitDefEqProofs (maxSteps := 1000000) only [simpS, ↓condJ_true, ↓condJ_false, ↓reduceIte, Nat.reduceEqDiff, Nat.reduceLT, Nat.reduceLeDiff, reduceCtorEq, Nat.reduceAdd, Nat.reduceSub, Option.map_some, if_true, if_false, List.getD_cons_zero, List.getD_cons_succ, List.length_cons, List.length_nil, List.mem_cons, List.not_mem_nil, List.mem_append, List.nil_append, List.cons_append, List.append_nil, List.take_succ_cons, List.take_zero, List.drop_succ_cons, List.drop_zero, List.set_cons_zero, List.set_cons_succ, List.map_cons, List.map_nil, implies_true, forall_const, ne_eq, hjd]
      refine hx_drawgo 1 ?_
      simp -implicitDefEqProofs (maxSteps := 3000000) only [drawS, List.map_cons, List.map_nil, List.getElem?_cons_zero, List.getElem?_cons_succ, List.getElem?_nil, simpS, ↓condJ_true, ↓condJ_false, ↓reduceIte, Nat.reduceEqDiff, Nat.reduceLT, Nat.reduceLeDiff, reduceCtorEq, Nat.reduceAdd, Nat.reduceSub, Option.map_some, if_true, if_false, List.getD_cons_zero, List.getD_cons_succ, List.length_cons, List.length_nil, List.mem_cons, List.not_mem_nil, List.mem_append, List.nil_append, List.cons_append, List.append_nil, List.take_succ_cons, List.take_zero, List.drop_succ_cons, List.drop_zero, List.set_cons_zero, List.set_cons_succ, List.map_cons, List.map_nil, implies_true, forall_const, ne_eq, hnt3, encK_length, hjp, hget, Int.toNat_natCast, Int.natCast_nonneg, hne]
      refine hgo_sound 30 ?_
      simp -implicitDefEqProofs (maxSteps := 1000000) only [simpS, ↓condJ_true, ↓condJ_false, ↓reduceIte, Nat.reduceEqDiff, Nat.reduceLT, Nat.reduceLeDiff, reduceCtorEq, Nat.reduceAdd, Nat.reduceSub, Option.map_some, if_true, if_false, List.getD_cons_zero, List.getD_cons_succ, List.length_cons, List.length_nil, List.mem_cons, List.not_mem_nil, List.mem_append, List.nil_append, List.cons_append, List.append_nil, List.take_succ_cons, List.take_zero, List.drop_succ_cons, List.drop_zero, List.set_cons_zero, List.set_cons_succ, List.map_cons, List.map_nil, implies_true, forall_const, ne_eq, hwr]
      intro hw4 hl4 hn4
      refine ⟨⟨j + 1⟩, by simp only; omega, by simp only; omega, ?_⟩
      refine Drop.all hw4 hn4 ⟨⟨rfl, ?_⟩, ⟨rfl, ?_⟩, ⟨rfl, ?_⟩, ⟨rfl, ⟨trivial, encK_lt _ _⟩⟩, ⟨rfl, ?_⟩, ⟨rfl, ⟨trivial, encK_lt _ _⟩⟩, ⟨rfl, trivial⟩, ⟨rfl, trivial⟩, trivial⟩
      all_goals (simp only [D.lt, Own.lt, lvS_next, St.next_bump, St.next_new]; omega)
    · have hjd : decide (((j : Nat) : Int) < (P.length : Int)) = false := by simp [hj]
      have hmin : (min st (W.length : Int) == if (W.length : Int) < st then (W.length : Int) else st) = true := by
        simp only [beq_iff_eq]
        split <;> omega
      refine hgo_sound 60 ?_
      simp -implicitDefEqProofs (maxSteps := 1000000) only [simpS, ↓condJ_true, ↓condJ_false, ↓reduceIte, Nat.reduceEqDiff, Nat.reduceLT, Nat.reduceLeDiff, reduceCtorEq, Nat.reduceAdd, Nat.reduceSub, Option.map_some, if_true, if_false, List.getD_cons_zero, List.getD_cons_succ, List.length_cons, List.length_nil, List.mem_cons, List.not_mem_nil, List.mem_append, List.nil_append, List.cons_append, List.append_nil, List.take_succ_cons, List.take_zero, List.drop_succ_cons, List.drop_zero, List.set_cons_zero, List.set_cons_succ, List.map_cons, List.map_nil, implies_true, forall_const, ne_eq, hjd, lvS_1, lvS_2, lvS_4, lvS_6, lvS_next, hlen, hmin]
      exact wk_fin H.hnx H.hwf ((((lvS_ext _ _ _ _ _ _ _).put (by omega) _).new _).bump) rfl (by simp -implicitDefEqProofs (maxSteps := 1000000) only [simpS, ↓condJ_true, ↓condJ_false, ↓reduceIte, Nat.reduceEqDiff, Nat.reduceLT, Nat.reduceLeDiff, reduceCtorEq, Nat.reduceAdd, Nat.reduceSub, Option.map_some, if_true, if_false, List.getD_cons_zero, List.getD_cons_succ, List.length_cons, List.length_nil, List.mem_cons, List.not_mem_nil, List.mem_append, List.nil_append, List.cons_append, List.append_nil, List.take_succ_cons, List.take_zero, List.drop_succ_cons, List.drop_zero, List.set_cons_zero, List.set_cons_succ, List.map_cons, List.map_nil, implies_true, forall_const, ne_eq, lvS_next])

end Go.Hl
