/-
  Layer 5: errors, words, names.
-/
import Derived.Test.YteffbibilpbhjaaDoorSgC
set_option linter.unusedSectionVars false
set_option linter.unusedVariables false
set_option linter.unusedSimpArgs false
set_option maxRecDepth 100000
namespace Go.Hl
open Go Go.Proofs

/-- An error as its number. -/
def erD : Int → D
  | 0 => .nili
  | n => .iface 50 (.int .i64 n)
theorem erD_pos {n : Int} (h : n ≠ 0) : erD n = .iface 50 (.int .i64 n) := by
  unfold erD
  split
  · exact absurd rfl h
  · rfl
theorem erD_zero : erD 0 = .nili := rfl
theorem erD_lt (n : Int) (k : Nat) : (erD n).lt k := by
  unfold erD
  split <;> trivial

theorem num_calls (n : Int) (σ : St) : HCalls Tryd.prog 29 [erD n] σ (fun d σ' => d = .int .i64 n ∧ σ' = σ) := by
  refine hcalls_body (fn := Tryd.f29) rfl c29 (by simp [h29]) (by simp [h29, Tryd.f29]) ?_
  intro M hP hr hnt hnx hwf hlt
  simp only [h29, argEnv]
  by_cases h0 : n = 0
  · subst h0
    simp only [erD_zero]
    refine hgo_sound 60 ?_
    simp -implicitDefEqProofs (maxSteps := 1000000) only [simpS, ↓condJ_true, ↓condJ_false, ↓reduceIte, Nat.reduceEqDiff, Nat.reduceLT, Nat.reduceLeDiff, reduceCtorEq, Nat.reduceAdd, Nat.reduceSub, bindG_none, addG_none, hgrpK_none, nestK_none, hgrpK_guarded, Option.map_none, beq_self_eq_true, bne_self_eq_false, Option.map_some, if_true, if_false, List.getD_cons_zero, List.getD_cons_succ, List.length_cons, List.length_nil, List.mem_cons, List.not_mem_nil, List.mem_append, List.nil_append, List.cons_append, List.append_nil, List.take_succ_cons, List.take_zero, List.drop_succ_cons, List.drop_zero, List.set_cons_zero, List.set_cons_succ, List.map_cons, List.map_nil, implies_true, forall_const, ne_eq]
    exact fpost_pure (σ0 := σ) (.inr rfl) (by rw [hnx]; exact Nat.le_refl _) hwf (Sub.refl σ) rfl trivial trivial ⟨rfl, rfl⟩
  · rw [erD_pos h0]
    have hne : (n != 0) = true := by simp [h0]
    refine hgo_sound 60 ?_
    simp -implicitDefEqProofs (maxSteps := 1000000) only [simpS, ↓condJ_true, ↓condJ_false, ↓reduceIte, Nat.reduceEqDiff, Nat.reduceLT, Nat.reduceLeDiff, reduceCtorEq, Nat.reduceAdd, Nat.reduceSub, bindG_none, addG_none, hgrpK_none, nestK_none, hgrpK_guarded, Option.map_none, beq_self_eq_true, bne_self_eq_false, Option.map_some, if_true, if_false, List.getD_cons_zero, List.getD_cons_succ, List.length_cons, List.length_nil, List.mem_cons, List.not_mem_nil, List.mem_append, List.nil_append, List.cons_append, List.append_nil, List.take_succ_cons, List.take_zero, List.drop_succ_cons, List.drop_zero, List.set_cons_zero, List.set_cons_succ, List.map_cons, List.map_nil, implies_true, forall_const, ne_eq, hne]
    exact fpost_pure (σ0 := σ) (.inr rfl) (by rw [hnx]; exact Nat.le_refl _) hwf (Sub.refl σ) rfl trivial trivial ⟨rfl, rfl⟩

theorem is_calls (n k : Int) (σ : St) : HCalls Tryd.prog 18 [erD n, .int .i64 k] σ (fun d σ' => d = .bool (n == k) ∧ σ' = σ) := by
  refine hcalls_body (fn := Tryd.f18) rfl c18 (by simp [h18]) (by simp [h18, Tryd.f18]) ?_
  intro M hP hr hnt hnx hwf hlt
  simp only [h18, argEnv]
  refine hgo_sound 60 ?_
  simp -implicitDefEqProofs (maxSteps := 1000000) only [simpS, ↓condJ_true, ↓condJ_false, ↓reduceIte, Nat.reduceEqDiff, Nat.reduceLT, Nat.reduceLeDiff, reduceCtorEq, Nat.reduceAdd, Nat.reduceSub, bindG_none, addG_none, hgrpK_none, nestK_none, hgrpK_guarded, Option.map_none, beq_self_eq_true, bne_self_eq_false, Option.map_some, if_true, if_false, List.getD_cons_zero, List.getD_cons_succ, List.length_cons, List.length_nil, List.mem_cons, List.not_mem_nil, List.mem_append, List.nil_append, List.cons_append, List.append_nil, List.take_succ_cons, List.take_zero, List.drop_succ_cons, List.drop_zero, List.set_cons_zero, List.set_cons_succ, List.map_cons, List.map_nil, implies_true, forall_const, ne_eq]
  refine hx_call (f := .fn 29) rfl (by rw [hP]; exact hcallD_func (num_calls n _)) ?_
  rintro _ σ2 ⟨rfl, h⟩
  subst σ2
  refine hgo_sound 60 ?_
  simp -implicitDefEqProofs (maxSteps := 1000000) only [simpS, ↓condJ_true, ↓condJ_false, ↓reduceIte, Nat.reduceEqDiff, Nat.reduceLT, Nat.reduceLeDiff, reduceCtorEq, Nat.reduceAdd, Nat.reduceSub, bindG_none, addG_none, hgrpK_none, nestK_none, hgrpK_guarded, Option.map_none, beq_self_eq_true, bne_self_eq_false, Option.map_some, if_true, if_false, List.getD_cons_zero, List.getD_cons_succ, List.length_cons, List.length_nil, List.mem_cons, List.not_mem_nil, List.mem_append, List.nil_append, List.cons_append, List.append_nil, List.take_succ_cons, List.take_zero, List.drop_succ_cons, List.drop_zero, List.set_cons_zero, List.set_cons_succ, List.map_cons, List.map_nil, implies_true, forall_const, ne_eq]
  exact fpost_pure (σ0 := σ) (.inr rfl) (by rw [hnx]; exact Nat.le_refl _) hwf (Sub.refl σ) rfl trivial trivial ⟨rfl, rfl⟩

/-! ### Words -/

def insP (b : UInt8) : Bool := isLet b || isFig b
def isWord (s : ByteArray) : Bool := match s.data.toList with
  | [] => false
  | b :: bs => decide (s.size ≤ 64) && (isLet b && (b :: bs).all insP)

theorem runTo_all (p : UInt8 → Bool) : ∀ l : List UInt8, runTo p l ≤ l.length ∧ (runTo p l = l.length ↔ l.all p = true)
  | [] => by simp [runTo]
  | b :: l => by
    obtain ⟨h1, h2⟩ := runTo_all p l
    simp only [runTo, List.length_cons, List.all_cons]
    by_cases hb : p b = true
    · simp only [hb, if_true, Bool.true_and]
      exact ⟨by omega, by rw [← h2]; omega⟩
    · simp only [hb, Bool.false_eq_true, if_false]
      have hb' : p b = false := by simpa using hb
      simp [hb']

theorem runAt_zero (p : UInt8 → Bool) (s : ByteArray) : runAt p s 0 = (runTo p s.data.toList : Int) := by
  have : runFrom s 0 = 0 := by unfold runFrom; omega
  unfold runAt
  rw [this, List.drop_zero, Nat.zero_add]

theorem runAt_all (p : UInt8 → Bool) (s : ByteArray) : (runAt p s 0 == (s.size : Int)) = s.data.toList.all p := by
  rw [runAt_zero]
  have h := (runTo_all p s.data.toList).2
  have hl : s.data.toList.length = s.size := by simp
  rw [hl] at h
  cases ha : s.data.toList.all p
  · rw [ha] at h
    simp only [Bool.false_eq_true, iff_false] at h
    simp only [beq_eq_false_iff_ne, ne_eq]
    omega
  · have := h.2 ha
    simp only [beq_iff_eq]
    omega

theorem word_calls (s : ByteArray) (hs : s.size ≤ 140737488355328) (σ : St) : HCalls Tryd.prog 27 [.str s] σ (fun d σ' => d = .bool (isWord s) ∧ σ' = σ) := by
  refine hcalls_body (fn := Tryd.f27) rfl c27 (by simp [h27]) (by simp [h27, Tryd.f27]) ?_
  intro M hP hr hnt hnx hwf hlt
  simp only [h27, argEnv]
  have hlen : s.data.toList.length = s.size := by simp
  by_cases h0 : s = ⟨#[]⟩
  · subst h0
    have hd : decide ((⟨#[]⟩ : ByteArray) = ⟨#[]⟩) = true := by simp
    refine hgo_sound 60 ?_
    simp -implicitDefEqProofs (maxSteps := 1000000) only [simpS, ↓condJ_true, ↓condJ_false, ↓reduceIte, Nat.reduceEqDiff, Nat.reduceLT, Nat.reduceLeDiff, reduceCtorEq, Nat.reduceAdd, Nat.reduceSub, bindG_none, addG_none, hgrpK_none, nestK_none, hgrpK_guarded, Option.map_none, beq_self_eq_true, bne_self_eq_false, Option.map_some, if_true, if_false, List.getD_cons_zero, List.getD_cons_succ, List.length_cons, List.length_nil, List.mem_cons, List.not_mem_nil, List.mem_append, List.nil_append, List.cons_append, List.append_nil, List.take_succ_cons, List.take_zero, List.drop_succ_cons, List.drop_zero, List.set_cons_zero, List.set_cons_succ, List.map_cons, List.map_nil, implies_true, forall_const, ne_eq, hd]
    exact fpost_pure (σ0 := σ) (.inr rfl) (by rw [hnx]; exact Nat.le_refl _) hwf (Sub.refl σ) rfl trivial trivial ⟨rfl, rfl⟩
  have hd : decide (s = ⟨#[]⟩) = false := by simp [h0]
  cases hl : s.data.toList with
  | nil =>
    exfalso
    apply h0
    cases s with
    | mk a => cases a with
      | mk l => simp at hl; rw [hl]
  | cons b bs =>
  have hsz : 0 < s.size := by rw [← hlen, hl]; simp
  have hsz2 : (0 : Int) < (s.size : Int) := by omega
  have hb : ((s.data.getD 0 0).toNat : Int) = (b.toNat : Int) := by
    have := byte_at s 0 hsz
    rw [this]
    simp [hl]
  have hw : isWord s = (decide (s.size ≤ 64) && (isLet b && (b :: bs).all insP)) := by unfold isWord; rw [hl]
  by_cases h64 : (s.size : Int) ≤ 64
  · have hd64 : decide ((s.size : Int) ≤ 64) = true := by simp [h64]
    have hdn : decide (s.size ≤ 64) = true := by simp; omega
    rw [hw, hdn, Bool.true_and]
    refine hgo_sound 60 ?_
    simp -implicitDefEqProofs (maxSteps := 1000000) only [simpS, ↓condJ_true, ↓condJ_false, ↓reduceIte, Nat.reduceEqDiff, Nat.reduceLT, Nat.reduceLeDiff, reduceCtorEq, Nat.reduceAdd, Nat.reduceSub, bindG_none, addG_none, hgrpK_none, nestK_none, hgrpK_guarded, Option.map_none, beq_self_eq_true, bne_self_eq_false, Option.map_some, if_true, if_false, List.getD_cons_zero, List.getD_cons_succ, List.length_cons, List.length_nil, List.mem_cons, List.not_mem_nil, List.mem_append, List.nil_append, List.cons_append, List.append_nil, List.take_succ_cons, List.take_zero, List.drop_succ_cons, List.drop_zero, List.set_cons_zero, List.set_cons_succ, List.map_cons, List.map_nil, implies_true, forall_const, ne_eq, hd, hd64, hsz2, hb, Int.toNat_zero, Int.le_refl, Int.reduceToNat]
    refine hx_call (f := .fn 48) rfl (by rw [hP]; exact hcallD_func (letter_calls b _)) ?_
    rintro _ σ2 ⟨rfl, h⟩
    subst σ2
    cases hbl : isLet b
    · refine hgo_sound 60 ?_
      simp -implicitDefEqProofs (maxSteps := 1000000) only [simpS, ↓condJ_true, ↓condJ_false, ↓reduceIte, Nat.reduceEqDiff, Nat.reduceLT, Nat.reduceLeDiff, reduceCtorEq, Nat.reduceAdd, Nat.reduceSub, bindG_none, addG_none, hgrpK_none, nestK_none, hgrpK_guarded, Option.map_none, beq_self_eq_true, bne_self_eq_false, Option.map_some, if_true, if_false, List.getD_cons_zero, List.getD_cons_succ, List.length_cons, List.length_nil, List.mem_cons, List.not_mem_nil, List.mem_append, List.nil_append, List.cons_append, List.append_nil, List.take_succ_cons, List.take_zero, List.drop_succ_cons, List.drop_zero, List.set_cons_zero, List.set_cons_succ, List.map_cons, List.map_nil, implies_true, forall_const, ne_eq]
      exact fpost_pure (σ0 := σ) (.inr rfl) (by rw [hnx]; exact Nat.le_refl _) hwf (Sub.refl σ) rfl trivial trivial ⟨rfl, rfl⟩
    · refine hgo_sound 60 ?_
      simp -implicitDefEqProofs (maxSteps := 1000000) only [simpS, ↓condJ_true, ↓condJ_false, ↓reduceIte, Nat.reduceEqDiff, Nat.reduceLT, Nat.reduceLeDiff, reduceCtorEq, Nat.reduceAdd, Nat.reduceSub, bindG_none, addG_none, hgrpK_none, nestK_none, hgrpK_guarded, Option.map_none, beq_self_eq_true, bne_self_eq_false, Option.map_some, if_true, if_false, List.getD_cons_zero, List.getD_cons_succ, List.length_cons, List.length_nil, List.mem_cons, List.not_mem_nil, List.mem_append, List.nil_append, List.cons_append, List.append_nil, List.take_succ_cons, List.take_zero, List.drop_succ_cons, List.drop_zero, List.set_cons_zero, List.set_cons_succ, List.map_cons, List.map_nil, implies_true, forall_const, ne_eq]
      refine hx_call (f := .fn 37) rfl (by rw [hP]; exact hcallD_func (run_calls s hs 0 49 insP (fun b σ => inside_calls b σ) _)) ?_
      rintro _ σ2 ⟨rfl, h⟩
      subst σ2
      rw [← hl]
      refine hgo_sound 60 ?_
      simp -implicitDefEqProofs (maxSteps := 1000000) only [simpS, ↓condJ_true, ↓condJ_false, ↓reduceIte, Nat.reduceEqDiff, Nat.reduceLT, Nat.reduceLeDiff, reduceCtorEq, Nat.reduceAdd, Nat.reduceSub, bindG_none, addG_none, hgrpK_none, nestK_none, hgrpK_guarded, Option.map_none, beq_self_eq_true, bne_self_eq_false, Option.map_some, if_true, if_false, List.getD_cons_zero, List.getD_cons_succ, List.length_cons, List.length_nil, List.mem_cons, List.not_mem_nil, List.mem_append, List.nil_append, List.cons_append, List.append_nil, List.take_succ_cons, List.take_zero, List.drop_succ_cons, List.drop_zero, List.set_cons_zero, List.set_cons_succ, List.map_cons, List.map_nil, implies_true, forall_const, ne_eq, runAt_all]
      exact fpost_pure (σ0 := σ) (.inr rfl) (by rw [hnx]; exact Nat.le_refl _) hwf (Sub.refl σ) rfl trivial trivial ⟨rfl, rfl⟩
  · have hd64 : decide ((s.size : Int) ≤ 64) = false := by simp; omega
    have hdn : decide (s.size ≤ 64) = false := by simp; omega
    rw [hw, hdn, Bool.false_and]
    refine hgo_sound 60 ?_
    simp -implicitDefEqProofs (maxSteps := 1000000) only [simpS, ↓condJ_true, ↓condJ_false, ↓reduceIte, Nat.reduceEqDiff, Nat.reduceLT, Nat.reduceLeDiff, reduceCtorEq, Nat.reduceAdd, Nat.reduceSub, bindG_none, addG_none, hgrpK_none, nestK_none, hgrpK_guarded, Option.map_none, beq_self_eq_true, bne_self_eq_false, Option.map_some, if_true, if_false, List.getD_cons_zero, List.getD_cons_succ, List.length_cons, List.length_nil, List.mem_cons, List.not_mem_nil, List.mem_append, List.nil_append, List.cons_append, List.append_nil, List.take_succ_cons, List.take_zero, List.drop_succ_cons, List.drop_zero, List.set_cons_zero, List.set_cons_succ, List.map_cons, List.map_nil, implies_true, forall_const, ne_eq, hd, hd64, hsz2, hb, Int.toNat_zero, Int.le_refl, Int.reduceToNat]
    exact fpost_pure (σ0 := σ) (.inr rfl) (by rw [hnx]; exact Nat.le_refl _) hwf (Sub.refl σ) rfl trivial trivial ⟨rfl, rfl⟩

/-- What the reference asks of each byte. -/
def rOk (j : Nat) : List UInt8 → Bool
  | [] => true
  | b :: bs => (isLet b || (isFig b && decide (0 < j))) && rOk (j + 1) bs

structure RwdS where
  j : Nat

theorem rOk_in : ∀ (l : List UInt8) (j : Nat), 0 < j → rOk j l = l.all insP
  | [], j, h => rfl
  | b :: l, j, h => by
    simp only [rOk, List.all_cons, rOk_in l (j + 1) (by omega), insP]
    simp [h]

theorem rWord_eq (s : ByteArray) : (rOk 0 s.data.toList && (decide ((s.size : Int) > 0) && decide ((s.size : Int) < 65))) = isWord s := by
  have hl : s.data.toList.length = s.size := by simp
  unfold isWord
  cases h : s.data.toList with
  | nil =>
    rw [h] at hl
    simp at hl
    simp [← hl]
  | cons b bs =>
    rw [h] at hl
    simp at hl
    have h1 : decide ((s.size : Int) > 0) = true := by simp; omega
    have h2 : decide ((s.size : Int) < 65) = decide (s.size ≤ 64) := by
      simp only [decide_eq_decide]
      omega
    simp only [rOk, rOk_in bs 1 (by omega), List.all_cons, insP]
    rw [h1, h2]
    cases isLet b <;> cases decide (s.size ≤ 64) <;> simp

theorem rword_calls (s : ByteArray) (hs : s.size ≤ 140737488355328) (σ : St) : HCalls Tryd.prog 25 [.str s] σ (fun d σ' => d = .bool (isWord s) ∧ σ' = σ) := by
  refine hcalls_body (fn := Tryd.f25) rfl c25 (by simp [h25]) (by simp [h25, Tryd.f25]) ?_
  intro M hP hr hnt hnx hwf hlt
  simp only [h25, argEnv]
  rw [← rWord_eq]
  refine hgo_sound 60 ?_
  simp -implicitDefEqProofs (maxSteps := 1000000) only [simpS, ↓condJ_true, ↓condJ_false, ↓reduceIte, Nat.reduceEqDiff, Nat.reduceLT, Nat.reduceLeDiff, reduceCtorEq, Nat.reduceAdd, Nat.reduceSub, bindG_none, addG_none, hgrpK_none, nestK_none, hgrpK_guarded, Option.map_none, beq_self_eq_true, bne_self_eq_false, Option.map_some, if_true, if_false, List.getD_cons_zero, List.getD_cons_succ, List.length_cons, List.length_nil, List.mem_cons, List.not_mem_nil, List.mem_append, List.nil_append, List.cons_append, List.append_nil, List.take_succ_cons, List.take_zero, List.drop_succ_cons, List.drop_zero, List.set_cons_zero, List.set_cons_succ, List.map_cons, List.map_nil, implies_true, forall_const, ne_eq]
  refine hx_know_code fun hw hl1 hn1 => ?_
  refine hx_loop (S := RwdS) (fun t => [(0, .str s), (3, .int .i64 t.j)]) (fun _ => σ)
    (fun t => t.j ≤ s.size ∧ rOk t.j (s.data.toList.drop t.j) = rOk 0 s.data.toList) (fun t => s.size - t.j) ⟨0⟩ ⟨Nat.zero_le _, rfl⟩ (fun _ _ h => by rw [hr] at h; cases h) ?_ ?_
  · exact Drop.all hw hn1 ⟨⟨rfl, trivial⟩, ⟨rfl, trivial⟩, trivial⟩
  rintro ⟨j⟩ ⟨j1, j4⟩
  simp only at j1 j4 ⊢
  by_cases hj : j < s.size
  · have hjd : decide (((j : Nat) : Int) < (s.size : Int)) = true := by simp [hj]
    have hjp : ((j : Nat) : Int) < (s.size : Int) := by omega
    have hb : ((s.data.getD j 0).toNat : Int) = (((s.data.toList[j]'(by simpa using hj)).toNat : Nat) : Int) := byte_at s j hj
    have hd := drop_cons s j hj
    rw [hd] at j4
    simp only [rOk] at j4
    generalize s.data.toList[j]'(by simpa using hj) = b at *
    have hwr : IntKind.i64.wrap ((j : Int) + 1) = ((j + 1 : Nat) : Int) := by rw [IntWalk.i64_in _ (by omega)]; rfl
    refine hgo_sound 60 ?_
    simp -implicitDefEqProofs (maxSteps := 1000000) only [simpS, ↓condJ_true, ↓condJ_false, ↓reduceIte, Nat.reduceEqDiff, Nat.reduceLT, Nat.reduceLeDiff, reduceCtorEq, Nat.reduceAdd, Nat.reduceSub, bindG_none, addG_none, hgrpK_none, nestK_none, hgrpK_guarded, Option.map_none, beq_self_eq_true, bne_self_eq_false, Option.map_some, if_true, if_false, List.getD_cons_zero, List.getD_cons_succ, List.length_cons, List.length_nil, List.mem_cons, List.not_mem_nil, List.mem_append, List.nil_append, List.cons_append, List.append_nil, List.take_succ_cons, List.take_zero, List.drop_succ_cons, List.drop_zero, List.set_cons_zero, List.set_cons_succ, List.map_cons, List.map_nil, implies_true, forall_const, ne_eq, hjd, hjp, Int.toNat_natCast, Int.natCast_nonneg, hb]
    refine hx_call (f := .fn 45) rfl (by rw [hP]; exact hcallD_func (rLetter_calls b _)) ?_
    rintro _ σ2 ⟨rfl, h⟩
    subst σ2
    cases hbl : isLet b
    · refine hgo_sound 60 ?_
      simp -implicitDefEqProofs (maxSteps := 1000000) only [simpS, ↓condJ_true, ↓condJ_false, ↓reduceIte, Nat.reduceEqDiff, Nat.reduceLT, Nat.reduceLeDiff, reduceCtorEq, Nat.reduceAdd, Nat.reduceSub, bindG_none, addG_none, hgrpK_none, nestK_none, hgrpK_guarded, Option.map_none, beq_self_eq_true, bne_self_eq_false, Option.map_some, if_true, if_false, List.getD_cons_zero, List.getD_cons_succ, List.length_cons, List.length_nil, List.mem_cons, List.not_mem_nil, List.mem_append, List.nil_append, List.cons_append, List.append_nil, List.take_succ_cons, List.take_zero, List.drop_succ_cons, List.drop_zero, List.set_cons_zero, List.set_cons_succ, List.map_cons, List.map_nil, implies_true, forall_const, ne_eq, hjd, hjp, Int.toNat_natCast, Int.natCast_nonneg, hb]
      refine hx_call (f := .fn 46) rfl (by rw [hP]; exact hcallD_func (rFigure_calls b _)) ?_
      rintro _ σ2 ⟨rfl, h⟩
      subst σ2
      cases hbf : isFig b
      · rw [hbl, hbf] at j4
        simp only [Bool.false_or, Bool.false_and] at j4
        rw [← j4]
        refine hgo_sound 60 ?_
        simp -implicitDefEqProofs (maxSteps := 1000000) only [simpS, ↓condJ_true, ↓condJ_false, ↓reduceIte, Nat.reduceEqDiff, Nat.reduceLT, Nat.reduceLeDiff, reduceCtorEq, Nat.reduceAdd, Nat.reduceSub, bindG_none, addG_none, hgrpK_none, nestK_none, hgrpK_guarded, Option.map_none, beq_self_eq_true, bne_self_eq_false, Option.map_some, if_true, if_false, List.getD_cons_zero, List.getD_cons_succ, List.length_cons, List.length_nil, List.mem_cons, List.not_mem_nil, List.mem_append, List.nil_append, List.cons_append, List.append_nil, List.take_succ_cons, List.take_zero, List.drop_succ_cons, List.drop_zero, List.set_cons_zero, List.set_cons_succ, List.map_cons, List.map_nil, implies_true, forall_const, ne_eq]
        exact fpost_pure (σ0 := σ) (.inr rfl) (by rw [hnx]; exact Nat.le_refl _) hwf (Sub.refl σ) rfl trivial trivial ⟨rfl, rfl⟩
      · by_cases hj0 : 0 < j
        · have hj0d : decide ((j : Int) > 0) = true := by simp; omega
          have hj0e : decide (0 < j) = true := by simp [hj0]
          rw [hbl, hbf, hj0e] at j4
          simp only [Bool.false_or, Bool.true_and] at j4
          refine hgo_sound 60 ?_
          simp -implicitDefEqProofs (maxSteps := 1000000) only [simpS, ↓condJ_true, ↓condJ_false, ↓reduceIte, Nat.reduceEqDiff, Nat.reduceLT, Nat.reduceLeDiff, reduceCtorEq, Nat.reduceAdd, Nat.reduceSub, bindG_none, addG_none, hgrpK_none, nestK_none, hgrpK_guarded, Option.map_none, beq_self_eq_true, bne_self_eq_false, Option.map_some, if_true, if_false, List.getD_cons_zero, List.getD_cons_succ, List.length_cons, List.length_nil, List.mem_cons, List.not_mem_nil, List.mem_append, List.nil_append, List.cons_append, List.append_nil, List.take_succ_cons, List.take_zero, List.drop_succ_cons, List.drop_zero, List.set_cons_zero, List.set_cons_succ, List.map_cons, List.map_nil, implies_true, forall_const, ne_eq, hj0d, hwr]
          intro hw2 hl2 hn2
          refine ⟨⟨j + 1⟩, ⟨by simp only; omega, j4⟩, by simp only; omega, ?_⟩
          exact Drop.all hw2 hn2 ⟨⟨rfl, trivial⟩, ⟨rfl, trivial⟩, trivial⟩
        · have hj0d : decide ((j : Int) > 0) = false := by simp; omega
          have hj0e : decide (0 < j) = false := by simp; omega
          rw [hbl, hbf, hj0e] at j4
          simp only [Bool.false_or, Bool.and_false, Bool.false_and] at j4
          rw [← j4]
          refine hgo_sound 60 ?_
          simp -implicitDefEqProofs (maxSteps := 1000000) only [simpS, ↓condJ_true, ↓condJ_false, ↓reduceIte, Nat.reduceEqDiff, Nat.reduceLT, Nat.reduceLeDiff, reduceCtorEq, Nat.reduceAdd, Nat.reduceSub, bindG_none, addG_none, hgrpK_none, nestK_none, hgrpK_guarded, Option.map_none, beq_self_eq_true, bne_self_eq_false, Option.map_some, if_true, if_false, List.getD_cons_zero, List.getD_cons_succ, List.length_cons, List.length_nil, List.mem_cons, List.not_mem_nil, List.mem_append, List.nil_append, List.cons_append, List.append_nil, List.take_succ_cons, List.take_zero, List.drop_succ_cons, List.drop_zero, List.set_cons_zero, List.set_cons_succ, List.map_cons, List.map_nil, implies_true, forall_const, ne_eq, hj0d, hwr]
          exact fpost_pure (σ0 := σ) (.inr rfl) (by rw [hnx]; exact Nat.le_refl _) hwf (Sub.refl σ) rfl trivial trivial ⟨rfl, rfl⟩
    · rw [hbl, Bool.true_or, Bool.true_and] at j4
      refine hgo_sound 60 ?_
      simp -implicitDefEqProofs (maxSteps := 1000000) only [simpS, ↓condJ_true, ↓condJ_false, ↓reduceIte, Nat.reduceEqDiff, Nat.reduceLT, Nat.reduceLeDiff, reduceCtorEq, Nat.reduceAdd, Nat.reduceSub, bindG_none, addG_none, hgrpK_none, nestK_none, hgrpK_guarded, Option.map_none, beq_self_eq_true, bne_self_eq_false, Option.map_some, if_true, if_false, List.getD_cons_zero, List.getD_cons_succ, List.length_cons, List.length_nil, List.mem_cons, List.not_mem_nil, List.mem_append, List.nil_append, List.cons_append, List.append_nil, List.take_succ_cons, List.take_zero, List.drop_succ_cons, List.drop_zero, List.set_cons_zero, List.set_cons_succ, List.map_cons, List.map_nil, implies_true, forall_const, ne_eq, hjd, hjp, Int.toNat_natCast, Int.natCast_nonneg, hb, hwr]
      intro hw2 hl2 hn2
      refine ⟨⟨j + 1⟩, ⟨by simp only; omega, j4⟩, by simp only; omega, ?_⟩
      exact Drop.all hw2 hn2 ⟨⟨rfl, trivial⟩, ⟨rfl, trivial⟩, trivial⟩
  · have hjd : decide (((j : Nat) : Int) < (s.size : Int)) = false := by simp [hj]
    have hd : s.data.toList.drop j = [] := List.drop_eq_nil_of_le (by have : s.data.toList.length = s.size := (by simp); omega)
    rw [hd] at j4
    rw [← j4]
    simp only [rOk, Bool.true_and]
    cases hs0 : decide ((s.size : Int) > 0)
    · have hs0' := hs0
      refine hgo_sound 60 ?_
      simp -implicitDefEqProofs (maxSteps := 1000000) only [simpS, ↓condJ_true, ↓condJ_false, ↓reduceIte, Nat.reduceEqDiff, Nat.reduceLT, Nat.reduceLeDiff, reduceCtorEq, Nat.reduceAdd, Nat.reduceSub, bindG_none, addG_none, hgrpK_none, nestK_none, hgrpK_guarded, Option.map_none, beq_self_eq_true, bne_self_eq_false, Option.map_some, if_true, if_false, List.getD_cons_zero, List.getD_cons_succ, List.length_cons, List.length_nil, List.mem_cons, List.not_mem_nil, List.mem_append, List.nil_append, List.cons_append, List.append_nil, List.take_succ_cons, List.take_zero, List.drop_succ_cons, List.drop_zero, List.set_cons_zero, List.set_cons_succ, List.map_cons, List.map_nil, implies_true, forall_const, ne_eq, hjd, hs0]
      exact fpost_pure (σ0 := σ) (.inr rfl) (by rw [hnx]; exact Nat.le_refl _) hwf (Sub.refl σ) rfl trivial trivial ⟨rfl, rfl⟩
    · refine hgo_sound 60 ?_
      simp -implicitDefEqProofs (maxSteps := 1000000) only [simpS, ↓condJ_true, ↓condJ_false, ↓reduceIte, Nat.reduceEqDiff, Nat.reduceLT, Nat.reduceLeDiff, reduceCtorEq, Nat.reduceAdd, Nat.reduceSub, bindG_none, addG_none, hgrpK_none, nestK_none, hgrpK_guarded, Option.map_none, beq_self_eq_true, bne_self_eq_false, Option.map_some, if_true, if_false, List.getD_cons_zero, List.getD_cons_succ, List.length_cons, List.length_nil, List.mem_cons, List.not_mem_nil, List.mem_append, List.nil_append, List.cons_append, List.append_nil, List.take_succ_cons, List.take_zero, List.drop_succ_cons, List.drop_zero, List.set_cons_zero, List.set_cons_succ, List.map_cons, List.map_nil, implies_true, forall_const, ne_eq, hjd, hs0]
      exact fpost_pure (σ0 := σ) (.inr rfl) (by rw [hnx]; exact Nat.le_refl _) hwf (Sub.refl σ) rfl trivial trivial ⟨rfl, rfl⟩

end Go.Hl
