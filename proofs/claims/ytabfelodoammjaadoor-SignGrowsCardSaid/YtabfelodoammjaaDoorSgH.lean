/-
  Layer 5: the keywords, one after the other; the plain laws of SignGrows.
-/
import Derived.Test.YtabfelodoammjaaDoorSgG
import Derived.Test.YtabfelodoammjaaDoorHlN
set_option linter.unusedSectionVars false
set_option linter.unusedVariables false
set_option linter.unusedSimpArgs false
set_option maxRecDepth 100000
namespace Go.Hl
open Go Go.Proofs

theorem values_calls (xs : List (List D)) (σ : St) : HCalls Tryd.prog 31 [.slice .no 1 xs] σ (fun d σ' => d = .func 37 [.eptr [.slice .no 1 xs] 0] ∧ σ' = σ) := by
  refine hcalls_body (fn := Tryd.f31) rfl c31 (by simp [h31]) (by simp [h31, Tryd.f31]) ?_
  intro M hP hr hnt hnx hwf hlt
  simp only [h31, argEnv]
  refine hgo_sound 60 ?_
  simp -implicitDefEqProofs (maxSteps := 1000000) only [simpS, ↓condJ_true, ↓condJ_false, ↓reduceIte, Nat.reduceEqDiff, Nat.reduceLT, Nat.reduceLeDiff, reduceCtorEq, Nat.reduceAdd, Nat.reduceSub, bindG_none, addG_none, hgrpK_none, nestK_none, Option.map_some, if_true, if_false, List.getD_cons_zero, List.getD_cons_succ, List.length_cons, List.length_nil, List.mem_cons, List.not_mem_nil, List.mem_append, List.nil_append, List.cons_append, List.append_nil, List.take_succ_cons, List.take_zero, List.drop_succ_cons, List.drop_zero, List.set_cons_zero, List.set_cons_succ, List.map_cons, List.map_nil, implies_true, forall_const, ne_eq]
  refine fpost_frz [(σ.next, [.slice .no 1 xs])] false (.inr rfl) (by omega) hwf ((Ext.refl σ).new _ |>.sub hwf) rfl trivial (by simp [St.obj_new]) (by simp [tupD, frzD, frzL, lookF, look]) ?_ ⟨rfl, rfl⟩
  simpa [D.lt, ltL] using hlt

theorem encW_slt (n : Nat) (l : List ByteArray) : (D.slice .no 1 (encW l)).lt n := by
  simp only [D.lt, Own.lt]
  exact ⟨trivial, encW_lt n l⟩

structure VlS (C : Type) where
  j : Nat
  c : C

theorem values_iter (l : List ByteArray) (hl : l.length < 4611686018427387904) :
    Iter Tryd.prog 37 (fun y => [y, .eptr [.slice .no 1 (encW l)] 0]) (fun s : ByteArray => [D.str s]) l := by
  intro tk c y hok hy
  refine hcalls_body (fn := Tryd.f37) rfl c37 (by simp [h37]) (by simp [h37, Tryd.f37]) ?_
  intro M hP hr hnt hnx hwf hlt
  simp only [h37, argEnv]
  refine hgo_sound 60 ?_
  simp -implicitDefEqProofs (maxSteps := 1000000) only [simpS, ↓condJ_true, ↓condJ_false, ↓reduceIte, Nat.reduceEqDiff, Nat.reduceLT, Nat.reduceLeDiff, reduceCtorEq, Nat.reduceAdd, Nat.reduceSub, bindG_none, addG_none, hgrpK_none, nestK_none, Option.map_some, if_true, if_false, List.getD_cons_zero, List.getD_cons_succ, List.length_cons, List.length_nil, List.mem_cons, List.not_mem_nil, List.mem_append, List.nil_append, List.cons_append, List.append_nil, List.take_succ_cons, List.take_zero, List.drop_succ_cons, List.drop_zero, List.set_cons_zero, List.set_cons_succ, List.map_cons, List.map_nil, implies_true, forall_const, ne_eq, encW_length]
  refine hx_know_code fun hw hl1 hn => ?_
  refine hx_loop (S := VlS tk.C) (fun s => [(0, y), (5, .slice .no 1 (encW l)), (6, .int .i64 l.length), (7, .int .i64 s.j)]) (fun s => tk.T s.c)
    (fun s => s.j ≤ l.length ∧ tk.oks s.c (l.drop s.j) ∧ tk.run c l = tk.run s.c (l.drop s.j))
    (fun s => l.length - s.j) ⟨0, c⟩ ⟨Nat.zero_le _, hok, rfl⟩ (fun _ _ h => by rw [hr] at h; cases h) ?_ ?_
  · exact Drop.all hw hn ⟨⟨rfl, hl1 0⟩, ⟨rfl, encW_slt _ _⟩, ⟨rfl, trivial⟩, ⟨rfl, trivial⟩, trivial⟩
  rintro ⟨j, c1⟩ ⟨h1, h6, h7⟩
  simp only at h1 h6 h7 ⊢
  refine hx_know_code fun hw1 hl1 hn1 => ?_
  by_cases hj : j < l.length
  · have hjd : decide ((j : Int) < (l.length : Int)) = true := by simp [hj]
    have hjp : (j : Int) < (l.length : Int) := by omega
    rw [List.drop_eq_getElem_cons hj] at h6 h7
    refine hgo_sound 60 ?_
    simp -implicitDefEqProofs (maxSteps := 1000000) only [simpS, ↓condJ_true, ↓condJ_false, ↓reduceIte, Nat.reduceEqDiff, Nat.reduceLT, Nat.reduceLeDiff, reduceCtorEq, Nat.reduceAdd, Nat.reduceSub, bindG_none, addG_none, hgrpK_none, nestK_none, Option.map_some, if_true, if_false, List.getD_cons_zero, List.getD_cons_succ, List.length_cons, List.length_nil, List.mem_cons, List.not_mem_nil, List.mem_append, List.nil_append, List.cons_append, List.append_nil, List.take_succ_cons, List.take_zero, List.drop_succ_cons, List.drop_zero, List.set_cons_zero, List.set_cons_succ, List.map_cons, List.map_nil, implies_true, forall_const, ne_eq, hjd, hjp, Int.toNat_natCast, Int.natCast_nonneg, encW_length, encW_get l j hj]
    refine hx_call rfl (by rw [hP]; exact hy.call c1 l[j] (tk.T c1) (tk.low c1) h6.1) ?_
    rintro d σ2 ⟨rfl, rfl⟩
    rw [tk.mixT]
    refine hx_know_ops fun hw2 hl2 hn2 => ?_
    refine hgo_sound 60 ?_
    simp -implicitDefEqProofs (maxSteps := 1000000) only [simpS, ↓condJ_true, ↓condJ_false, ↓reduceIte, Nat.reduceEqDiff, Nat.reduceLT, Nat.reduceLeDiff, reduceCtorEq, Nat.reduceAdd, Nat.reduceSub, bindG_none, addG_none, hgrpK_none, nestK_none, Option.map_some, if_true, if_false, List.getD_cons_zero, List.getD_cons_succ, List.length_cons, List.length_nil, List.mem_cons, List.not_mem_nil, List.mem_append, List.nil_append, List.cons_append, List.append_nil, List.take_succ_cons, List.take_zero, List.drop_succ_cons, List.drop_zero, List.set_cons_zero, List.set_cons_succ, List.map_cons, List.map_nil, implies_true, forall_const, ne_eq]
    refine ⟨fun hb => ?_, fun hb => ?_⟩
    · have hb' : (tk.step c1 l[j]).2 = false := by simpa using hb
      rw [h7, Tk.run_false hb']
      exact fpost_pure (.inr rfl) hn2 hw2 (Sub.refl _) rfl trivial (by simp only [tupD, D.lt, ltL]) rfl
    · have hb' : (tk.step c1 l[j]).2 = true := by simpa using hb
      intro _ _ _
      refine ⟨⟨j + 1, _⟩, ⟨by simp only; omega, h6.2 hb', by rw [h7, Tk.run_true hb']⟩, by simp only; omega, ?_⟩
      refine Drop.all hw2 hn2 ⟨⟨rfl, hl2 0⟩, ⟨rfl, encW_slt _ _⟩, ⟨rfl, trivial⟩, ⟨?_, trivial⟩, trivial⟩
      simp only [look, if_true, if_false, reduceIte, Nat.reduceEqDiff]
      rw [IntWalk.i64_in _ (by omega)]
      rfl
  · have hjd : decide ((j : Int) < (l.length : Int)) = false := by simp; omega
    have hd : l.drop j = [] := List.drop_eq_nil_of_le (by omega)
    rw [hd] at h7
    refine hgo_sound 60 ?_
    simp -implicitDefEqProofs (maxSteps := 1000000) only [simpS, ↓condJ_true, ↓condJ_false, ↓reduceIte, Nat.reduceEqDiff, Nat.reduceLT, Nat.reduceLeDiff, reduceCtorEq, Nat.reduceAdd, Nat.reduceSub, bindG_none, addG_none, hgrpK_none, nestK_none, Option.map_some, if_true, if_false, List.getD_cons_zero, List.getD_cons_succ, List.length_cons, List.length_nil, List.mem_cons, List.not_mem_nil, List.mem_append, List.nil_append, List.cons_append, List.append_nil, List.take_succ_cons, List.take_zero, List.drop_succ_cons, List.drop_zero, List.set_cons_zero, List.set_cons_succ, List.map_cons, List.map_nil, implies_true, forall_const, ne_eq, hjd]
    rw [h7]
    exact fpost_pure (.inl rfl) hn1 hw1 (Sub.refl _) rfl trivial (by simp only [tupD, D.lt, ltL]) rfl

theorem keywords_calls (σ : St) (hg : GK σ) : HCalls Tryd.prog 23 [] σ (fun d σ' => d = .func 37 [.eptr [.slice .no 1 (encW kwS)] 0] ∧ σ' = σ) := by
  refine hcalls_body (fn := Tryd.f23) rfl c23 (by simp [h23]) (by simp [h23, Tryd.f23]) ?_
  intro M hP hr hnt hnx hwf hlt
  simp only [h23, argEnv]
  have hm : (kwS.map D.str).map (fun c => [c]) = encW kwS := by simp [encW]
  have hlen : (kwS.map D.str).length = 18 := rfl
  refine hgo_sound 60 ?_
  simp -implicitDefEqProofs (maxSteps := 1000000) only [simpS, ↓condJ_true, ↓condJ_false, ↓reduceIte, Nat.reduceEqDiff, Nat.reduceLT, Nat.reduceLeDiff, reduceCtorEq, Nat.reduceAdd, Nat.reduceSub, bindG_none, addG_none, hgrpK_none, nestK_none, Option.map_some, if_true, if_false, List.getD_cons_zero, List.getD_cons_succ, List.length_cons, List.length_nil, List.mem_cons, List.not_mem_nil, List.mem_append, List.nil_append, List.cons_append, List.append_nil, List.take_succ_cons, List.take_zero, List.drop_succ_cons, List.drop_zero, List.set_cons_zero, List.set_cons_succ, List.map_cons, List.map_nil, implies_true, forall_const, ne_eq, hg.words, hm, hlen]
  refine hx_call (f := .fn 31) rfl (by rw [hP]; exact hcallD_func (values_calls _ _)) ?_
  rintro _ σ2 ⟨rfl, h⟩
  subst σ2
  refine hgo_sound 60 ?_
  simp -implicitDefEqProofs (maxSteps := 1000000) only [simpS, ↓condJ_true, ↓condJ_false, ↓reduceIte, Nat.reduceEqDiff, Nat.reduceLT, Nat.reduceLeDiff, reduceCtorEq, Nat.reduceAdd, Nat.reduceSub, bindG_none, addG_none, hgrpK_none, nestK_none, Option.map_some, if_true, if_false, List.getD_cons_zero, List.getD_cons_succ, List.length_cons, List.length_nil, List.mem_cons, List.not_mem_nil, List.mem_append, List.nil_append, List.cons_append, List.append_nil, List.take_succ_cons, List.take_zero, List.drop_succ_cons, List.drop_zero, List.set_cons_zero, List.set_cons_succ, List.map_cons, List.map_nil, implies_true, forall_const, ne_eq]
  exact fpost_pure (σ0 := σ) (.inr rfl) (by rw [hnx]; exact Nat.le_refl _) hwf (Sub.refl σ) rfl trivial (by simp only [tupD, D.lt, ltL]; exact ⟨⟨encW_slt _ _, trivial⟩, trivial⟩) ⟨rfl, rfl⟩

/-! ### Plain laws -/

theorem app_list (s : ByteArray) (b : UInt8) : (s ++ (⟨#[b]⟩ : ByteArray)).data.toList = s.data.toList ++ [b] := by simp
theorem app_size (s : ByteArray) (b : UInt8) : (s ++ (⟨#[b]⟩ : ByteArray)).size = s.size + 1 := by
  rw [ByteArray.size_append]
  rfl

theorem grow_word (s : ByteArray) (b : UInt8) (h : isWord s = true) : isWord (s ++ ⟨#[b]⟩) = (decide (s.size < 64) && (isLet b || isFig b)) := by
  unfold isWord at h ⊢
  rw [app_list, app_size]
  cases hl : s.data.toList with
  | nil => rw [hl] at h; cases h
  | cons c cs =>
    rw [hl] at h
    simp only [Bool.and_eq_true, decide_eq_true_eq] at h
    obtain ⟨h1, h2, h3⟩ := h
    have h4 : (c :: (cs ++ [b])).all insP = (isLet b || isFig b) := by
      rw [← List.cons_append, List.all_append, h3]
      simp [insP]
    simp only [List.cons_append, h2, Bool.true_and, h4]
    congr 1

theorem let_fig (b : UInt8) : (isLet b && isFig b) = false := by
  unfold isLet isFig
  simp only [Bool.and_eq_false_iff, Bool.or_eq_false_iff, decide_eq_false_iff_not]
  omega

theorem memW_mem (x : ByteArray) : ∀ l : List ByteArray, memW x l = true ↔ x ∈ l
  | [] => by simp [memW]
  | y :: ys => by simp [memW, memW_mem x ys]

theorem kw_all : kwS.all isWord = true := by decide +kernel

theorem kw_word (s : ByteArray) (h : isKw s = true) : isWord s = true ∧ nameE s = 8 := by
  have hm := (memW_mem s kwS).1 h
  refine ⟨List.all_eq_true.1 kw_all s hm, ?_⟩
  unfold nameE
  rw [h]
  simp

theorem num_range (s : ByteArray) (h : numE s = 0) : 0 ≤ numV s ∧ numV s ≤ 2147483647 ∧ ((s.size : Int) > 1 → ((s.data.getD 0 0).toNat : Int) ≠ 48) := by
  unfold numE at h
  unfold numV
  cases hn : rNumD s with
  | none => rw [hn] at h; cases h
  | some n =>
    obtain ⟨_, _, hle, _⟩ := num_is hn
    refine ⟨by simp only; omega, by simp only; omega, fun h1 => ?_⟩
    rw [headD_at s (by omega)]
    unfold rNumD at hn
    simp only at hn
    split at hn
    · cases hn
    · rename_i hc
      have hlen : s.data.toList.length = s.size := by simp
      intro he
      apply hc
      refine .inr (.inr ⟨by omega, ?_⟩)
      have : (s.data.toList.headD 0).toNat = (48 : UInt8).toNat := by
        have : (48 : UInt8).toNat = 48 := rfl
        omega
      exact UInt8.toNat_inj.1 this

end Go.Hl
