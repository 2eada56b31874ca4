/-
  Layer 5: errors, words, names.
-/
import Derived.Test.YtijcddlahidhhaaGreatDoorHlS
import Derived.Test.YtijcddlahidhhaaGreatDoorHlM
import Derived.IntWalk
import Derived.Lib.Bytealg
import Derived.Lib.Index
set_option linter.unusedSectionVars false
set_option linter.unusedVariables false
set_option linter.unusedSimpArgs false
set_option maxRecDepth 100000
namespace Go.Hl
open Go Go.Proofs

def erD : Int → D
  | 0 => .nili
  | n => .iface 55 (.int .i64 n)
theorem erD_pos {n : Int} (h : n ≠ 0) : erD n = .iface 55 (.int .i64 n) := by
  unfold erD
  split
  · exact absurd rfl h
  · rfl
theorem erD_zero : erD 0 = .nili := rfl

theorem num_calls (n : Int) (σ : St) : HCalls Tryz.prog 7 [erD n] σ (fun d σ' => d = .int .i64 n ∧ σ' = σ) := by
  refine hcalls_body (fn := Tryz.f7) rfl c7 (by simp [h7]) (by simp [h7, Tryz.f7]) ?_
  intro M hP hr hnt hnx hwf hlt
  simp only [h7, argEnv]
  by_cases h0 : n = 0
  · subst h0
    simp only [erD_zero]
    refine hgo_sound 60 ?_
    simp -implicitDefEqProofs (maxSteps := 1000000) only [simpS, ↓condJ_true, ↓condJ_false, ↓reduceIte, Nat.reduceEqDiff, Nat.reduceLT, Nat.reduceLeDiff, reduceCtorEq, Nat.reduceAdd, Nat.reduceSub, noneS, listS, implies_true, forall_const, ne_eq]
    exact fpost_pure (σ0 := σ) (.inr rfl) (by rw [hnx]; exact Nat.le_refl _) hwf (Sub.refl σ) rfl trivial trivial ⟨rfl, rfl⟩
  · rw [erD_pos h0]
    have hne : (n != 0) = true := by simp [h0]
    refine hgo_sound 60 ?_
    simp -implicitDefEqProofs (maxSteps := 1000000) only [simpS, ↓condJ_true, ↓condJ_false, ↓reduceIte, Nat.reduceEqDiff, Nat.reduceLT, Nat.reduceLeDiff, reduceCtorEq, Nat.reduceAdd, Nat.reduceSub, noneS, listS, implies_true, forall_const, ne_eq, hne]
    exact fpost_pure (σ0 := σ) (.inr rfl) (by rw [hnx]; exact Nat.le_refl _) hwf (Sub.refl σ) rfl trivial trivial ⟨rfl, rfl⟩

def insP (b : UInt8) : Bool := isLet b || isFig b
def isWord (s : ByteArray) : Bool := match s.data.toList with
  | [] => false
  | b :: bs => decide (s.size ≤ 64) && (isLet b && (b :: bs).all insP)

theorem runTo_all (p : UInt8 → Bool) : ∀ l : List UInt8, runTo p l ≤ l.length ∧ (runTo p l = l.length ↔ l.all p = true)
  | [] => by simp [runTo]
  | b :: l => by
    obtain ⟨h1, h2⟩ := runTo_all p l
    simp only [runTo, List.length_cons, List.all_cons]
    by_cases hb : p b = true
    · simp only [hb, if_true, Bool.true_and]
      exact ⟨by omega, by rw [← h2]; omega⟩
    · simp only [hb, Bool.false_eq_true, if_false]
      have hb' : p b = false := by simpa using hb
      simp [hb']

theorem runAt_zero (p : UInt8 → Bool) (s : ByteArray) : runAt p s 0 = (runTo p s.data.toList : Int) := by
  have : runFrom s 0 = 0 := by unfold runFrom; omega
  unfold runAt
  rw [this, List.drop_zero, Nat.zero_add]

theorem runAt_all (p : UInt8 → Bool) (s : ByteArray) : (runAt p s 0 == (s.size : Int)) = s.data.toList.all p := by
  rw [runAt_zero]
  have h := (runTo_all p s.data.toList).2
  have hl : s.data.toList.length = s.size := by simp
  rw [hl] at h
  cases ha : s.data.toList.all p
  · rw [ha] at h
    simp only [Bool.false_eq_true, iff_false] at h
    simp only [beq_eq_false_iff_ne, ne_eq]
    omega
  · have := h.2 ha
    simp only [beq_iff_eq]
    omega

theorem word_calls (s : ByteArray) (hs : s.size ≤ 140737488355328) (σ : St) : HCalls Tryz.prog 68 [.str s] σ (fun d σ' => d = .bool (isWord s) ∧ σ' = σ) := by
  refine hcalls_body (fn := Tryz.f68) rfl c68 (by simp [h68]) (by simp [h68, Tryz.f68]) ?_
  intro M hP hr hnt hnx hwf hlt
  simp only [h68, argEnv]
  have hlen : s.data.toList.length = s.size := by simp
  by_cases h0 : s = ⟨#[]⟩
  · subst h0
    have hd : decide ((⟨#[]⟩ : ByteArray) = ⟨#[]⟩) = true := by simp
    refine hgo_sound 60 ?_
    simp -implicitDefEqProofs (maxSteps := 1000000) only [simpS, ↓condJ_true, ↓condJ_false, ↓reduceIte, Nat.reduceEqDiff, Nat.reduceLT, Nat.reduceLeDiff, reduceCtorEq, Nat.reduceAdd, Nat.reduceSub, noneS, listS, implies_true, forall_const, ne_eq, hd]
    exact fpost_pure (σ0 := σ) (.inr rfl) (by rw [hnx]; exact Nat.le_refl _) hwf (Sub.refl σ) rfl trivial trivial ⟨rfl, rfl⟩
  have hd : decide (s = ⟨#[]⟩) = false := by simp [h0]
  cases hl : s.data.toList with
  | nil =>
    exfalso
    apply h0
    cases s with
    | mk a => cases a with
      | mk l => simp at hl; rw [hl]
  | cons b bs =>
  have hsz : 0 < s.size := by rw [← hlen, hl]; simp
  have hsz2 : (0 : Int) < (s.size : Int) := by omega
  have hb : ((s.data.getD 0 0).toNat : Int) = (b.toNat : Int) := by
    have := byte_at s 0 hsz
    rw [this]
    simp [hl]
  have hw : isWord s = (decide (s.size ≤ 64) && (isLet b && (b :: bs).all insP)) := by unfold isWord; rw [hl]
  by_cases h64 : (s.size : Int) ≤ 64
  · have hd64 : decide ((s.size : Int) ≤ 64) = true := by simp [h64]
    have hdn : decide (s.size ≤ 64) = true := by simp; omega
    rw [hw, hdn, Bool.true_and]
    refine hgo_sound 60 ?_
    simp -implicitDefEqProofs (maxSteps := 1000000) only [simpS, ↓condJ_true, ↓condJ_false, ↓reduceIte, Nat.reduceEqDiff, Nat.reduceLT, Nat.reduceLeDiff, reduceCtorEq, Nat.reduceAdd, Nat.reduceSub, noneS, listS, implies_true, forall_const, ne_eq, hd, hd64, hsz2, hb, Int.toNat_zero, Int.le_refl, Int.reduceToNat]
    refine hx_call (f := .fn 64) rfl (by rw [hP]; exact hcallD_func (letter_calls b _)) ?_
    rintro _ σ2 ⟨rfl, h⟩
    subst σ2
    cases hbl : isLet b
    · refine hgo_sound 60 ?_
      simp -implicitDefEqProofs (maxSteps := 1000000) only [simpS, ↓condJ_true, ↓condJ_false, ↓reduceIte, Nat.reduceEqDiff, Nat.reduceLT, Nat.reduceLeDiff, reduceCtorEq, Nat.reduceAdd, Nat.reduceSub, noneS, listS, implies_true, forall_const, ne_eq]
      exact fpost_pure (σ0 := σ) (.inr rfl) (by rw [hnx]; exact Nat.le_refl _) hwf (Sub.refl σ) rfl trivial trivial ⟨rfl, rfl⟩
    · refine hgo_sound 60 ?_
      simp -implicitDefEqProofs (maxSteps := 1000000) only [simpS, ↓condJ_true, ↓condJ_false, ↓reduceIte, Nat.reduceEqDiff, Nat.reduceLT, Nat.reduceLeDiff, reduceCtorEq, Nat.reduceAdd, Nat.reduceSub, noneS, listS, implies_true, forall_const, ne_eq]
      refine hx_call (f := .fn 47) rfl (by rw [hP]; exact hcallD_func (run_calls s hs 0 80 insP (fun b σ => inside_calls b σ) _)) ?_
      rintro _ σ2 ⟨rfl, h⟩
      subst σ2
      rw [← hl]
      refine hgo_sound 60 ?_
      simp -implicitDefEqProofs (maxSteps := 1000000) only [simpS, ↓condJ_true, ↓condJ_false, ↓reduceIte, Nat.reduceEqDiff, Nat.reduceLT, Nat.reduceLeDiff, reduceCtorEq, Nat.reduceAdd, Nat.reduceSub, noneS, listS, implies_true, forall_const, ne_eq, runAt_all]
      exact fpost_pure (σ0 := σ) (.inr rfl) (by rw [hnx]; exact Nat.le_refl _) hwf (Sub.refl σ) rfl trivial trivial ⟨rfl, rfl⟩
  · have hd64 : decide ((s.size : Int) ≤ 64) = false := by simp; omega
    have hdn : decide (s.size ≤ 64) = false := by simp; omega
    rw [hw, hdn, Bool.false_and]
    refine hgo_sound 60 ?_
    simp -implicitDefEqProofs (maxSteps := 1000000) only [simpS, ↓condJ_true, ↓condJ_false, ↓reduceIte, Nat.reduceEqDiff, Nat.reduceLT, Nat.reduceLeDiff, reduceCtorEq, Nat.reduceAdd, Nat.reduceSub, noneS, listS, implies_true, forall_const, ne_eq, hd, hd64, hsz2, hb, Int.toNat_zero, Int.le_refl, Int.reduceToNat]
    exact fpost_pure (σ0 := σ) (.inr rfl) (by rw [hnx]; exact Nat.le_refl _) hwf (Sub.refl σ) rfl trivial trivial ⟨rfl, rfl⟩

def rOk (j : Nat) : List UInt8 → Bool
  | [] => true
  | b :: bs => (isLet b || (isFig b && decide (0 < j))) && rOk (j + 1) bs

structure RwdS where
  j : Nat

theorem rOk_in : ∀ (l : List UInt8) (j : Nat), 0 < j → rOk j l = l.all insP
  | [], j, h => rfl
  | b :: l, j, h => by
    simp only [rOk, List.all_cons, rOk_in l (j + 1) (by omega), insP]
    simp [h]

theorem rWord_eq (s : ByteArray) : (rOk 0 s.data.toList && (decide ((s.size : Int) > 0) && decide ((s.size : Int) < 65))) = isWord s := by
  have hl : s.data.toList.length = s.size := by simp
  unfold isWord
  cases h : s.data.toList with
  | nil =>
    rw [h] at hl
    simp at hl
    simp [← hl]
  | cons b bs =>
    rw [h] at hl
    simp at hl
    have h1 : decide ((s.size : Int) > 0) = true := by simp; omega
    have h2 : decide ((s.size : Int) < 65) = decide (s.size ≤ 64) := by
      simp only [decide_eq_decide]
      omega
    simp only [rOk, rOk_in bs 1 (by omega), List.all_cons, insP]
    rw [h1, h2]
    cases isLet b <;> cases decide (s.size ≤ 64) <;> simp

theorem rword_calls (s : ByteArray) (hs : s.size ≤ 140737488355328) (σ : St) : HCalls Tryz.prog 72 [.str s] σ (fun d σ' => d = .bool (isWord s) ∧ σ' = σ) := by
  refine hcalls_body (fn := Tryz.f72) rfl c72 (by simp [h72]) (by simp [h72, Tryz.f72]) ?_
  intro M hP hr hnt hnx hwf hlt
  simp only [h72, argEnv]
  rw [← rWord_eq]
  refine hgo_sound 60 ?_
  simp -implicitDefEqProofs (maxSteps := 1000000) only [simpS, ↓condJ_true, ↓condJ_false, ↓reduceIte, Nat.reduceEqDiff, Nat.reduceLT, Nat.reduceLeDiff, reduceCtorEq, Nat.reduceAdd, Nat.reduceSub, noneS, listS, implies_true, forall_const, ne_eq]
  refine hx_know_code fun hw hl1 hn1 => ?_
  refine hx_loop (S := RwdS) (fun t => [(0, .str s), (3, .int .i64 t.j)]) (fun _ => σ)
    (fun t => t.j ≤ s.size ∧ rOk t.j (s.data.toList.drop t.j) = rOk 0 s.data.toList) (fun t => s.size - t.j) ⟨0⟩ ⟨Nat.zero_le _, rfl⟩ (fun _ _ h => by rw [hr] at h; cases h) ?_ ?_
  · exact Drop.all hw hn1 ⟨⟨rfl, trivial⟩, ⟨rfl, trivial⟩, trivial⟩
  rintro ⟨j⟩ ⟨j1, j4⟩
  simp only at j1 j4 ⊢
  by_cases hj : j < s.size
  · have hjd : decide (((j : Nat) : Int) < (s.size : Int)) = true := by simp [hj]
    have hjp : ((j : Nat) : Int) < (s.size : Int) := by omega
    have hb : ((s.data.getD j 0).toNat : Int) = (((s.data.toList[j]'(by simpa using hj)).toNat : Nat) : Int) := byte_at s j hj
    have hd := drop_cons s j hj
    rw [hd] at j4
    simp only [rOk] at j4
    generalize s.data.toList[j]'(by simpa using hj) = b at *
    have hwr : IntKind.i64.wrap ((j : Int) + 1) = ((j + 1 : Nat) : Int) := by rw [IntWalk.i64_in _ (by omega)]; rfl
    refine hgo_sound 60 ?_
    simp -implicitDefEqProofs (maxSteps := 1000000) only [simpS, ↓condJ_true, ↓condJ_false, ↓reduceIte, Nat.reduceEqDiff, Nat.reduceLT, Nat.reduceLeDiff, reduceCtorEq, Nat.reduceAdd, Nat.reduceSub, noneS, listS, implies_true, forall_const, ne_eq, hjd, hjp, Int.toNat_natCast, Int.natCast_nonneg, hb]
    refine hx_call (f := .fn 70) rfl (by rw [hP]; exact hcallD_func (rLetter_calls b _)) ?_
    rintro _ σ2 ⟨rfl, h⟩
    subst σ2
    cases hbl : isLet b
    · refine hgo_sound 60 ?_
      simp -implicitDefEqProofs (maxSteps := 1000000) only [simpS, ↓condJ_true, ↓condJ_false, ↓reduceIte, Nat.reduceEqDiff, Nat.reduceLT, Nat.reduceLeDiff, reduceCtorEq, Nat.reduceAdd, Nat.reduceSub, noneS, listS, implies_true, forall_const, ne_eq, hjd, hjp, Int.toNat_natCast, Int.natCast_nonneg, hb]
      refine hx_call (f := .fn 71) rfl (by rw [hP]; exact hcallD_func (rFigure_calls b _)) ?_
      rintro _ σ2 ⟨rfl, h⟩
      subst σ2
      cases hbf : isFig b
      · rw [hbl, hbf] at j4
        simp only [Bool.false_or, Bool.false_and] at j4
        rw [← j4]
        refine hgo_sound 60 ?_
        simp -implicitDefEqProofs (maxSteps := 1000000) only [simpS, ↓condJ_true, ↓condJ_false, ↓reduceIte, Nat.reduceEqDiff, Nat.reduceLT, Nat.reduceLeDiff, reduceCtorEq, Nat.reduceAdd, Nat.reduceSub, noneS, listS, implies_true, forall_const, ne_eq]
        exact fpost_pure (σ0 := σ) (.inr rfl) (by rw [hnx]; exact Nat.le_refl _) hwf (Sub.refl σ) rfl trivial trivial ⟨rfl, rfl⟩
      · by_cases hj0 : 0 < j
        · have hj0d : decide ((j : Int) > 0) = true := by simp; omega
          have hj0e : decide (0 < j) = true := by simp [hj0]
          rw [hbl, hbf, hj0e] at j4
          simp only [Bool.false_or, Bool.true_and] at j4
          refine hgo_sound 60 ?_
          simp -implicitDefEqProofs (maxSteps := 1000000) only [simpS, ↓condJ_true, ↓condJ_false, ↓reduceIte, Nat.reduceEqDiff, Nat.reduceLT, Nat.reduceLeDiff, reduceCtorEq, Nat.reduceAdd, Nat.reduceSub, noneS, listS, implies_true, forall_const, ne_eq, hj0d, hwr]
          intro hw2 hl2 hn2
          refine ⟨⟨j + 1⟩, ⟨by simp only; omega, j4⟩, by simp only; omega, ?_⟩
          exact Drop.all hw2 hn2 ⟨⟨rfl, trivial⟩, ⟨rfl, trivial⟩, trivial⟩
        · have hj0d : decide ((j : Int) > 0) = false := by simp; omega
          have hj0e : decide (0 < j) = false := by simp; omega
          rw [hbl, hbf, hj0e] at j4
          simp only [Bool.false_or, Bool.and_false, Bool.false_and] at j4
          rw [← j4]
          refine hgo_sound 60 ?_
          simp -implicitDefEqProofs (maxSteps := 1000000) only [simpS, ↓condJ_true, ↓condJ_false, ↓reduceIte, Nat.reduceEqDiff, Nat.reduceLT, Nat.reduceLeDiff, reduceCtorEq, Nat.reduceAdd, Nat.reduceSub, noneS, listS, implies_true, forall_const, ne_eq, hj0d, hwr]
          exact fpost_pure (σ0 := σ) (.inr rfl) (by rw [hnx]; exact Nat.le_refl _) hwf (Sub.refl σ) rfl trivial trivial ⟨rfl, rfl⟩
    · rw [hbl, Bool.true_or, Bool.true_and] at j4
      refine hgo_sound 60 ?_
      simp -implicitDefEqProofs (maxSteps := 1000000) only [simpS, ↓condJ_true, ↓condJ_false, ↓reduceIte, Nat.reduceEqDiff, Nat.reduceLT, Nat.reduceLeDiff, reduceCtorEq, Nat.reduceAdd, Nat.reduceSub, noneS, listS, implies_true, forall_const, ne_eq, hjd, hjp, Int.toNat_natCast, Int.natCast_nonneg, hb, hwr]
      intro hw2 hl2 hn2
      refine ⟨⟨j + 1⟩, ⟨by simp only; omega, j4⟩, by simp only; omega, ?_⟩
      exact Drop.all hw2 hn2 ⟨⟨rfl, trivial⟩, ⟨rfl, trivial⟩, trivial⟩
  · have hjd : decide (((j : Nat) : Int) < (s.size : Int)) = false := by simp [hj]
    have hd : s.data.toList.drop j = [] := List.drop_eq_nil_of_le (by have : s.data.toList.length = s.size := (by simp); omega)
    rw [hd] at j4
    rw [← j4]
    simp only [rOk, Bool.true_and]
    cases hs0 : decide ((s.size : Int) > 0)
    · have hs0' := hs0
      refine hgo_sound 60 ?_
      simp -implicitDefEqProofs (maxSteps := 1000000) only [simpS, ↓condJ_true, ↓condJ_false, ↓reduceIte, Nat.reduceEqDiff, Nat.reduceLT, Nat.reduceLeDiff, reduceCtorEq, Nat.reduceAdd, Nat.reduceSub, noneS, listS, implies_true, forall_const, ne_eq, hjd, hs0]
      exact fpost_pure (σ0 := σ) (.inr rfl) (by rw [hnx]; exact Nat.le_refl _) hwf (Sub.refl σ) rfl trivial trivial ⟨rfl, rfl⟩
    · refine hgo_sound 60 ?_
      simp -implicitDefEqProofs (maxSteps := 1000000) only [simpS, ↓condJ_true, ↓condJ_false, ↓reduceIte, Nat.reduceEqDiff, Nat.reduceLT, Nat.reduceLeDiff, reduceCtorEq, Nat.reduceAdd, Nat.reduceSub, noneS, listS, implies_true, forall_const, ne_eq, hjd, hs0]
      exact fpost_pure (σ0 := σ) (.inr rfl) (by rw [hnx]; exact Nat.le_refl _) hwf (Sub.refl σ) rfl trivial trivial ⟨rfl, rfl⟩

end Go.Hl
set_option linter.unusedSectionVars false
set_option linter.unusedVariables false
set_option linter.unusedSimpArgs false
set_option maxRecDepth 100000
namespace Go.Hl
open Go Go.Proofs

theorem rname_calls (s : ByteArray) (hs : s.size ≤ 140737488355328) (σ : St) : HCalls Tryz.prog 58 [.str s] σ (fun d σ' => d = .bool (isWord s && !isKw s) ∧ σ' = σ) := by
  refine hcalls_body (fn := Tryz.f58) rfl c58 (by simp [h58]) (by simp [h58, Tryz.f58]) ?_
  intro M hP hr hnt hnx hwf hlt
  simp only [h58, argEnv]
  refine hgo_sound 60 ?_
  simp -implicitDefEqProofs (maxSteps := 1000000) only [simpS, ↓condJ_true, ↓condJ_false, ↓reduceIte, Nat.reduceEqDiff, Nat.reduceLT, Nat.reduceLeDiff, reduceCtorEq, Nat.reduceAdd, Nat.reduceSub, noneS, listS, implies_true, forall_const, ne_eq]
  refine hx_call (f := .fn 72) rfl (by rw [hP]; exact hcallD_func (rword_calls s hs _)) ?_
  rintro _ σ2 ⟨rfl, h⟩
  subst σ2
  cases hw : isWord s
  · refine hgo_sound 60 ?_
    simp -implicitDefEqProofs (maxSteps := 1000000) only [simpS, ↓condJ_true, ↓condJ_false, ↓reduceIte, Nat.reduceEqDiff, Nat.reduceLT, Nat.reduceLeDiff, reduceCtorEq, Nat.reduceAdd, Nat.reduceSub, noneS, listS, implies_true, forall_const, ne_eq]
    exact fpost_pure (σ0 := σ) (.inr rfl) (by rw [hnx]; exact Nat.le_refl _) hwf (Sub.refl σ) rfl trivial trivial ⟨rfl, rfl⟩
  · refine hgo_sound 60 ?_
    simp -implicitDefEqProofs (maxSteps := 1000000) only [simpS, ↓condJ_true, ↓condJ_false, ↓reduceIte, Nat.reduceEqDiff, Nat.reduceLT, Nat.reduceLeDiff, reduceCtorEq, Nat.reduceAdd, Nat.reduceSub, noneS, listS, implies_true, forall_const, ne_eq]
    refine hx_call (f := .fn 59) rfl (by rw [hP]; exact hcallD_func (rkeyword_calls s _)) ?_
    rintro _ σ2 ⟨rfl, h⟩
    subst σ2
    refine hgo_sound 60 ?_
    simp -implicitDefEqProofs (maxSteps := 1000000) only [simpS, ↓condJ_true, ↓condJ_false, ↓reduceIte, Nat.reduceEqDiff, Nat.reduceLT, Nat.reduceLeDiff, reduceCtorEq, Nat.reduceAdd, Nat.reduceSub, noneS, listS, implies_true, forall_const, ne_eq]
    exact fpost_pure (σ0 := σ) (.inr rfl) (by rw [hnx]; exact Nat.le_refl _) hwf (Sub.refl σ) rfl trivial trivial ⟨rfl, rfl⟩

def numV (s : ByteArray) : Int := match rNumD s with | some n => n | none => 0
def numE (s : ByteArray) : Int := match rNumD s with | some n => 0 | none => 2

theorem arr_eq (l : List UInt8) (s : ByteArray) : (⟨l.toArray⟩ : ByteArray) = s ↔ l = s.data.toList := by
  constructor
  · rintro rfl
    rfl
  · rintro rfl
    cases s
    simp

theorem num_none {s : ByteArray} (h : ∀ n : Nat, Lib.atoiAll s.data.toList = .ok (n : Int) → s.data.toList.length ≤ 10 → n ≤ 2147483647 → Lib.itoa (n : Int) = s.data.toList → False) : rNumD s = none := by
  cases hn : rNumD s with
  | none => rfl
  | some n =>
    obtain ⟨h1, h2, h3, h4⟩ := num_is hn
    exact (h n h1 h2 h3 h4).elim

theorem number_calls (s : ByteArray) (hs : s.size ≤ 140737488355328) (σ : St) (hg : GK σ) : HCalls Tryz.prog 66 [.str s] σ (fun d σ' => d = .tuple [.int .i64 (numV s), erD (numE s)] ∧ σ' = σ) := by
  refine hcalls_body (fn := Tryz.f66) rfl c66 (by simp [h66]) (by simp [h66, Tryz.f66]) ?_
  intro M hP hr hnt hnx hwf hlt
  simp only [h66, argEnv]
  have hlen : s.data.toList.length = s.size := by simp
  refine hgo_sound 60 ?_
  simp -implicitDefEqProofs (maxSteps := 1000000) only [simpS, ↓condJ_true, ↓condJ_false, ↓reduceIte, Nat.reduceEqDiff, Nat.reduceLT, Nat.reduceLeDiff, reduceCtorEq, Nat.reduceAdd, Nat.reduceSub, noneS, listS, implies_true, forall_const, ne_eq]
  refine hx_call (f := .fn 77) rfl (by rw [hP]; exact hcallD_func (atoi_calls s hs _ hg)) ?_
  rintro _ σ2 ⟨rfl, h⟩
  subst σ2
  unfold atoiD
  cases ha : Lib.atoiAll s.data.toList with
  | range =>
    have hno : rNumD s = none := num_none fun n e1 e2 e3 e4 => by
      rw [ha] at e1; cases e1
    simp only [numV, numE, hno]
    refine hgo_sound 60 ?_
    simp -implicitDefEqProofs (maxSteps := 1000000) only [simpS, ↓condJ_true, ↓condJ_false, ↓reduceIte, Nat.reduceEqDiff, Nat.reduceLT, Nat.reduceLeDiff, reduceCtorEq, Nat.reduceAdd, Nat.reduceSub, noneS, listS, implies_true, forall_const, ne_eq, erD]
    exact fpost_pure (σ0 := σ) (.inr rfl) (by rw [hnx]; exact Nat.le_refl _) hwf (Sub.refl σ) rfl trivial ⟨trivial, trivial, trivial⟩ ⟨rfl, rfl⟩
  | ok v =>
    by_cases q1 : (s.size : Int) > 10
    · have d1 : decide ((s.size : Int) > 10) = true := by simp [q1]
      have hno : rNumD s = none := num_none fun n e1 e2 e3 e4 => by
        omega
      simp only [numV, numE, hno]
      refine hgo_sound 60 ?_
      simp -implicitDefEqProofs (maxSteps := 1000000) only [simpS, ↓condJ_true, ↓condJ_false, ↓reduceIte, Nat.reduceEqDiff, Nat.reduceLT, Nat.reduceLeDiff, reduceCtorEq, Nat.reduceAdd, Nat.reduceSub, noneS, listS, implies_true, forall_const, ne_eq, erD, d1]
      exact fpost_pure (σ0 := σ) (.inr rfl) (by rw [hnx]; exact Nat.le_refl _) hwf (Sub.refl σ) rfl trivial ⟨trivial, trivial, trivial⟩ ⟨rfl, rfl⟩
    have d1 : decide ((s.size : Int) > 10) = false := by simp; omega
    by_cases q2 : v < 0
    · have d2 : decide (v < 0) = true := by simp [q2]
      have hno : rNumD s = none := num_none fun n e1 e2 e3 e4 => by
        rw [ha] at e1; injection e1 with e1; omega
      simp only [numV, numE, hno]
      refine hgo_sound 60 ?_
      simp -implicitDefEqProofs (maxSteps := 1000000) only [simpS, ↓condJ_true, ↓condJ_false, ↓reduceIte, Nat.reduceEqDiff, Nat.reduceLT, Nat.reduceLeDiff, reduceCtorEq, Nat.reduceAdd, Nat.reduceSub, noneS, listS, implies_true, forall_const, ne_eq, erD, d1, d2]
      exact fpost_pure (σ0 := σ) (.inr rfl) (by rw [hnx]; exact Nat.le_refl _) hwf (Sub.refl σ) rfl trivial ⟨trivial, trivial, trivial⟩ ⟨rfl, rfl⟩
    have d2 : decide (v < 0) = false := by simp; omega
    by_cases q3 : v > 2147483647
    · have d3 : decide (v > 2147483647) = true := by simp [q3]
      have hno : rNumD s = none := num_none fun n e1 e2 e3 e4 => by
        rw [ha] at e1; injection e1 with e1; omega
      simp only [numV, numE, hno]
      refine hgo_sound 60 ?_
      simp -implicitDefEqProofs (maxSteps := 1000000) only [simpS, ↓condJ_true, ↓condJ_false, ↓reduceIte, Nat.reduceEqDiff, Nat.reduceLT, Nat.reduceLeDiff, reduceCtorEq, Nat.reduceAdd, Nat.reduceSub, noneS, listS, implies_true, forall_const, ne_eq, erD, d1, d2, d3]
      exact fpost_pure (σ0 := σ) (.inr rfl) (by rw [hnx]; exact Nat.le_refl _) hwf (Sub.refl σ) rfl trivial ⟨trivial, trivial, trivial⟩ ⟨rfl, rfl⟩
    have d3 : decide (v > 2147483647) = false := by simp; omega
    refine hgo_sound 60 ?_
    simp -implicitDefEqProofs (maxSteps := 1000000) only [simpS, ↓condJ_true, ↓condJ_false, ↓reduceIte, Nat.reduceEqDiff, Nat.reduceLT, Nat.reduceLeDiff, reduceCtorEq, Nat.reduceAdd, Nat.reduceSub, noneS, listS, implies_true, forall_const, ne_eq, d1, d2, d3]
    refine hx_call (f := .fn 78) rfl (by rw [hP]; exact hcallD_func (itoa_calls v (by omega) (by omega) _ hg)) ?_
    rintro _ σ2 ⟨rfl, h⟩
    subst σ2
    by_cases q4 : (⟨(Lib.itoa v).toArray⟩ : ByteArray) = s
    · have d4 : decide ((⟨(Lib.itoa v).toArray⟩ : ByteArray) = s) = true := by simp [q4]
      have hy := is_num (s := s) (v := v) (by omega) (by omega) (by omega) ((arr_eq _ _).1 q4)
      have hv : ((v.toNat : Nat) : Int) = v := by omega
      simp only [numV, numE, hy, hv]
      refine hgo_sound 60 ?_
      simp -implicitDefEqProofs (maxSteps := 1000000) only [simpS, ↓condJ_true, ↓condJ_false, ↓reduceIte, Nat.reduceEqDiff, Nat.reduceLT, Nat.reduceLeDiff, reduceCtorEq, Nat.reduceAdd, Nat.reduceSub, noneS, listS, implies_true, forall_const, ne_eq, d4, erD]
      exact fpost_pure (σ0 := σ) (.inr rfl) (by rw [hnx]; exact Nat.le_refl _) hwf (Sub.refl σ) rfl trivial ⟨trivial, trivial, trivial⟩ ⟨rfl, rfl⟩
    · have d4 : decide ((⟨(Lib.itoa v).toArray⟩ : ByteArray) = s) = false := by simp [q4]
      have hno : rNumD s = none := num_none fun n e1 e2 e3 e4 => by
        exact q4 ((arr_eq _ _).2 (by rw [ha] at e1; injection e1 with e1; rw [e1]; exact e4))
      simp only [numV, numE, hno]
      refine hgo_sound 60 ?_
      simp -implicitDefEqProofs (maxSteps := 1000000) only [simpS, ↓condJ_true, ↓condJ_false, ↓reduceIte, Nat.reduceEqDiff, Nat.reduceLT, Nat.reduceLeDiff, reduceCtorEq, Nat.reduceAdd, Nat.reduceSub, noneS, listS, implies_true, forall_const, ne_eq, erD, d4]
      exact fpost_pure (σ0 := σ) (.inr rfl) (by rw [hnx]; exact Nat.le_refl _) hwf (Sub.refl σ) rfl trivial ⟨trivial, trivial, trivial⟩ ⟨rfl, rfl⟩
  | _ =>
    have hno : rNumD s = none := num_none fun n e1 e2 e3 e4 => by
      rw [ha] at e1; cases e1
    simp only [numV, numE, hno]
    refine hgo_sound 60 ?_
    simp -implicitDefEqProofs (maxSteps := 1000000) only [simpS, ↓condJ_true, ↓condJ_false, ↓reduceIte, Nat.reduceEqDiff, Nat.reduceLT, Nat.reduceLeDiff, reduceCtorEq, Nat.reduceAdd, Nat.reduceSub, noneS, listS, implies_true, forall_const, ne_eq, erD]
    exact fpost_pure (σ0 := σ) (.inr rfl) (by rw [hnx]; exact Nat.le_refl _) hwf (Sub.refl σ) rfl trivial ⟨trivial, trivial, trivial⟩ ⟨rfl, rfl⟩

structure RnuS where
  j : Nat
  n : Nat

theorem headD_at (s : ByteArray) (h : 0 < s.size) : ((s.data.getD 0 0).toNat : Int) = ((s.data.toList.headD 0).toNat : Int) := by
  have key : ∀ (l : List UInt8) (h : 0 < l.length), l[0] = l.headD 0 := fun l h => by
    cases l with
    | nil => simp at h
    | cons b bs => rfl
  rw [byte_at s 0 h, key]

def numB (s : ByteArray) : Bool := match rNumD s with | some n => true | none => false

theorem rnumber_calls (s : ByteArray) (hs : s.size ≤ 140737488355328) (σ : St) : HCalls Tryz.prog 57 [.str s] σ (fun d σ' => d = .tuple [.int .i64 (numV s), .bool (numB s)] ∧ σ' = σ) := by
  refine hcalls_body (fn := Tryz.f57) rfl c57 (by simp [h57]) (by simp [h57, Tryz.f57]) ?_
  intro M hP hr hnt hnx hwf hlt
  simp only [h57, argEnv]
  have hlen : s.data.toList.length = s.size := by simp
  by_cases q1 : s.size = 0
  · have d1 : ((s.size : Int) == 0) = true := by simp [q1]
    have hno : rNumD s = none := by unfold rNumD; simp only; rw [if_pos (by omega)]
    simp only [numV, numB, hno]
    refine hgo_sound 60 ?_
    simp -implicitDefEqProofs (maxSteps := 1000000) only [simpS, ↓condJ_true, ↓condJ_false, ↓reduceIte, Nat.reduceEqDiff, Nat.reduceLT, Nat.reduceLeDiff, reduceCtorEq, Nat.reduceAdd, Nat.reduceSub, noneS, listS, implies_true, forall_const, ne_eq, d1]
    exact fpost_pure (σ0 := σ) (.inr rfl) (by rw [hnx]; exact Nat.le_refl _) hwf (Sub.refl σ) rfl trivial ⟨trivial, trivial, trivial⟩ ⟨rfl, rfl⟩
  have d1 : ((s.size : Int) == 0) = false := by simp only [beq_eq_false_iff_ne, ne_eq]; omega
  by_cases q2 : s.size > 10
  · have d2 : decide ((s.size : Int) > 10) = true := by simp; omega
    have hno : rNumD s = none := by unfold rNumD; simp only; rw [if_pos (.inr (.inl (by omega)))]
    simp only [numV, numB, hno]
    refine hgo_sound 60 ?_
    simp -implicitDefEqProofs (maxSteps := 1000000) only [simpS, ↓condJ_true, ↓condJ_false, ↓reduceIte, Nat.reduceEqDiff, Nat.reduceLT, Nat.reduceLeDiff, reduceCtorEq, Nat.reduceAdd, Nat.reduceSub, noneS, listS, implies_true, forall_const, ne_eq, d1, d2]
    exact fpost_pure (σ0 := σ) (.inr rfl) (by rw [hnx]; exact Nat.le_refl _) hwf (Sub.refl σ) rfl trivial ⟨trivial, trivial, trivial⟩ ⟨rfl, rfl⟩
  have d2 : decide ((s.size : Int) > 10) = false := by simp; omega
  have hpos : (0 : Int) < (s.size : Int) := by omega
  have hh := headD_at s (by omega)
  have hmain : (s.size > 1 ∧ s.data.toList.headD 0 = 48) ∨ ¬ (s.size > 1 ∧ s.data.toList.headD 0 = 48) := Classical.em _
  rcases hmain with q3 | q3
  · have d3 : decide ((s.size : Int) > 1) = true := by simp; omega
    have d4 : ((s.data.getD 0 0).toNat : Int) == 48 := by rw [hh, q3.2]; rfl
    have d4 : (((s.data.getD 0 0).toNat : Int) == 48) = true := d4
    have hno : rNumD s = none := by unfold rNumD; simp only; rw [if_pos (.inr (.inr ⟨by omega, q3.2⟩))]
    simp only [numV, numB, hno]
    refine hgo_sound 60 ?_
    simp -implicitDefEqProofs (maxSteps := 1000000) only [simpS, ↓condJ_true, ↓condJ_false, ↓reduceIte, Nat.reduceEqDiff, Nat.reduceLT, Nat.reduceLeDiff, reduceCtorEq, Nat.reduceAdd, Nat.reduceSub, noneS, listS, implies_true, forall_const, ne_eq, d1, d2, d3, d4, hpos, Int.toNat_zero, Int.le_refl, Int.reduceToNat]
    exact fpost_pure (σ0 := σ) (.inr rfl) (by rw [hnx]; exact Nat.le_refl _) hwf (Sub.refl σ) rfl trivial ⟨trivial, trivial, trivial⟩ ⟨rfl, rfl⟩
  have hgo : rNumD s = match rNumF 0 s.data.toList with
      | none => none
      | some n => if n > 2147483647 then none else some n := by
    unfold rNumD
    simp only
    rw [if_neg ?_]
    · rfl
    · rintro (e | e | e)
      · omega
      · omega
      · exact q3 ⟨by omega, e.2⟩
  have loop : ∀ (e : Env), look e 0 = .str s → look e 4 = .int .i64 0 → look e 5 = .int .i64 0 → allE σ.next e [(0, .str s), (4, .int .i64 0), (5, .int .i64 0)] := fun e e0 e4 e5 => ⟨⟨e0.symm, trivial⟩, ⟨e4.symm, trivial⟩, ⟨e5.symm, trivial⟩, trivial⟩
  cases d3 : decide ((s.size : Int) > 1)
  · refine hgo_sound 60 ?_
    simp -implicitDefEqProofs (maxSteps := 1000000) only [simpS, ↓condJ_true, ↓condJ_false, ↓reduceIte, Nat.reduceEqDiff, Nat.reduceLT, Nat.reduceLeDiff, reduceCtorEq, Nat.reduceAdd, Nat.reduceSub, noneS, listS, implies_true, forall_const, ne_eq, d1, d2, d3, hpos, Int.toNat_zero, Int.le_refl, Int.reduceToNat]
    refine hx_know_code fun hw hl1 hn1 => ?_
    refine hx_loop (S := RnuS) (fun t => [(0, .str s), (4, .int .i64 t.n), (5, .int .i64 t.j)]) (fun _ => σ)
      (fun t => t.j ≤ s.size ∧ rNumF t.n (s.data.toList.drop t.j) = rNumF 0 s.data.toList ∧ t.n < 10 ^ t.j) (fun t => s.size - t.j) ⟨0, 0⟩ ⟨Nat.zero_le _, rfl, by simp⟩ (fun _ _ h => by rw [hr] at h; cases h) ?_ ?_
    · exact Drop.all hw hn1 (loop _ rfl rfl rfl)
    rintro ⟨j, n⟩ ⟨j1, j4, j5⟩
    simp only at j1 j4 j5 ⊢
    have hp10 : 10 ^ j ≤ 10 ^ 10 := Nat.pow_le_pow_right (by omega) (by omega)
    have hp11 : 10 ^ (j + 1) = 10 * 10 ^ j := by rw [Nat.pow_succ]; omega
    by_cases hj : j < s.size
    · have hjd : decide (((j : Nat) : Int) < (s.size : Int)) = true := by simp [hj]
      have hjp : ((j : Nat) : Int) < (s.size : Int) := by omega
      have hb : ((s.data.getD j 0).toNat : Int) = (((s.data.toList[j]'(by simpa using hj)).toNat : Nat) : Int) := byte_at s j hj
      have hd := drop_cons s j hj
      rw [hd] at j4
      simp only [rNumF] at j4
      generalize s.data.toList[j]'(by simpa using hj) = b at *
      have hwr : IntKind.i64.wrap ((j : Int) + 1) = ((j + 1 : Nat) : Int) := by rw [IntWalk.i64_in _ (by omega)]; rfl
      refine hgo_sound 60 ?_
      simp -implicitDefEqProofs (maxSteps := 1000000) only [simpS, ↓condJ_true, ↓condJ_false, ↓reduceIte, Nat.reduceEqDiff, Nat.reduceLT, Nat.reduceLeDiff, reduceCtorEq, Nat.reduceAdd, Nat.reduceSub, noneS, listS, implies_true, forall_const, ne_eq, hjd, hjp, Int.toNat_natCast, Int.natCast_nonneg, hb]
      refine hx_call (f := .fn 71) rfl (by rw [hP]; exact hcallD_func (rFigure_calls b _)) ?_
      rintro _ σ2 ⟨rfl, h⟩
      subst σ2
      cases hbf : isFig b
      · rw [hbf] at j4
        have hno : rNumD s = none := by rw [hgo, ← j4]; rfl
        simp only [numV, numB, hno]
        refine hgo_sound 60 ?_
        simp -implicitDefEqProofs (maxSteps := 1000000) only [simpS, ↓condJ_true, ↓condJ_false, ↓reduceIte, Nat.reduceEqDiff, Nat.reduceLT, Nat.reduceLeDiff, reduceCtorEq, Nat.reduceAdd, Nat.reduceSub, noneS, listS, implies_true, forall_const, ne_eq]
        exact fpost_pure (σ0 := σ) (.inr rfl) (by rw [hnx]; exact Nat.le_refl _) hwf (Sub.refl σ) rfl trivial ⟨trivial, trivial, trivial⟩ ⟨rfl, rfl⟩
      · rw [hbf, if_pos rfl] at j4
        obtain ⟨f1, f2, f3⟩ := fig_back hbf
        have hbw : IntKind.i64.wrap (b.toNat : Int) = (b.toNat : Int) := IntWalk.i64_in _ (by omega)
        have hw1 : IntKind.i64.wrap (10 * (n : Int)) = 10 * (n : Int) := IntWalk.i64_in _ (by omega)
        have hw2 : IntKind.i64.wrap (10 * (n : Int) + (b.toNat : Int)) = 10 * (n : Int) + (b.toNat : Int) := IntWalk.i64_in _ (by omega)
        have hw3 : IntKind.i64.wrap (10 * (n : Int) + (b.toNat : Int) - 48) = ((10 * n + (b.toNat - 48) : Nat) : Int) := by rw [IntWalk.i64_in _ (by omega)]; omega
        refine hgo_sound 60 ?_
        simp -implicitDefEqProofs (maxSteps := 1000000) only [simpS, ↓condJ_true, ↓condJ_false, ↓reduceIte, Nat.reduceEqDiff, Nat.reduceLT, Nat.reduceLeDiff, reduceCtorEq, Nat.reduceAdd, Nat.reduceSub, noneS, listS, implies_true, forall_const, ne_eq, hjp, Int.toNat_natCast, Int.natCast_nonneg, hb, hwr, hbw, hw1, hw2, hw3]
        intro hw4 hl2 hn2
        refine ⟨⟨j + 1, 10 * n + (b.toNat - 48)⟩, ⟨by simp only; omega, j4, by simp only; rw [hp11]; omega⟩, by simp only; omega, ?_⟩
        exact Drop.all hw4 hn2 ⟨⟨rfl, trivial⟩, ⟨rfl, trivial⟩, ⟨rfl, trivial⟩, trivial⟩
    · have hjd : decide (((j : Nat) : Int) < (s.size : Int)) = false := by simp [hj]
      have hd : s.data.toList.drop j = [] := List.drop_eq_nil_of_le (by omega)
      rw [hd] at j4
      simp only [rNumF] at j4
      rw [← j4] at hgo
      simp only at hgo
      by_cases hm : n > 2147483647
      · have hmd : decide ((n : Int) > 2147483647) = true := by simp; omega
        rw [if_pos hm] at hgo
        simp only [numV, numB, hgo]
        refine hgo_sound 60 ?_
        simp -implicitDefEqProofs (maxSteps := 1000000) only [simpS, ↓condJ_true, ↓condJ_false, ↓reduceIte, Nat.reduceEqDiff, Nat.reduceLT, Nat.reduceLeDiff, reduceCtorEq, Nat.reduceAdd, Nat.reduceSub, noneS, listS, implies_true, forall_const, ne_eq, hjd, hmd]
        exact fpost_pure (σ0 := σ) (.inr rfl) (by rw [hnx]; exact Nat.le_refl _) hwf (Sub.refl σ) rfl trivial ⟨trivial, trivial, trivial⟩ ⟨rfl, rfl⟩
      · have hmd : decide ((n : Int) > 2147483647) = false := by simp; omega
        rw [if_neg hm] at hgo
        simp only [numV, numB, hgo]
        refine hgo_sound 60 ?_
        simp -implicitDefEqProofs (maxSteps := 1000000) only [simpS, ↓condJ_true, ↓condJ_false, ↓reduceIte, Nat.reduceEqDiff, Nat.reduceLT, Nat.reduceLeDiff, reduceCtorEq, Nat.reduceAdd, Nat.reduceSub, noneS, listS, implies_true, forall_const, ne_eq, hjd, hmd]
        exact fpost_pure (σ0 := σ) (.inr rfl) (by rw [hnx]; exact Nat.le_refl _) hwf (Sub.refl σ) rfl trivial ⟨trivial, trivial, trivial⟩ ⟨rfl, rfl⟩
  · have d4 : (((s.data.getD 0 0).toNat : Int) == 48) = false := by
      rw [hh]
      simp only [beq_eq_false_iff_ne, ne_eq]
      intro e
      refine q3 ⟨by simp at d3; omega, ?_⟩
      apply UInt8.toNat_inj.1
      have : (48 : UInt8).toNat = 48 := rfl
      omega
    refine hgo_sound 60 ?_
    simp -implicitDefEqProofs (maxSteps := 1000000) only [simpS, ↓condJ_true, ↓condJ_false, ↓reduceIte, Nat.reduceEqDiff, Nat.reduceLT, Nat.reduceLeDiff, reduceCtorEq, Nat.reduceAdd, Nat.reduceSub, noneS, listS, implies_true, forall_const, ne_eq, d1, d2, d3, d4, hpos, Int.toNat_zero, Int.le_refl, Int.reduceToNat]
    refine hx_know_code fun hw hl1 hn1 => ?_
    refine hx_loop (S := RnuS) (fun t => [(0, .str s), (4, .int .i64 t.n), (5, .int .i64 t.j)]) (fun _ => σ)
      (fun t => t.j ≤ s.size ∧ rNumF t.n (s.data.toList.drop t.j) = rNumF 0 s.data.toList ∧ t.n < 10 ^ t.j) (fun t => s.size - t.j) ⟨0, 0⟩ ⟨Nat.zero_le _, rfl, by simp⟩ (fun _ _ h => by rw [hr] at h; cases h) ?_ ?_
    · exact Drop.all hw hn1 (loop _ rfl rfl rfl)
    rintro ⟨j, n⟩ ⟨j1, j4, j5⟩
    simp only at j1 j4 j5 ⊢
    have hp10 : 10 ^ j ≤ 10 ^ 10 := Nat.pow_le_pow_right (by omega) (by omega)
    have hp11 : 10 ^ (j + 1) = 10 * 10 ^ j := by rw [Nat.pow_succ]; omega
    by_cases hj : j < s.size
    · have hjd : decide (((j : Nat) : Int) < (s.size : Int)) = true := by simp [hj]
      have hjp : ((j : Nat) : Int) < (s.size : Int) := by omega
      have hb : ((s.data.getD j 0).toNat : Int) = (((s.data.toList[j]'(by simpa using hj)).toNat : Nat) : Int) := byte_at s j hj
      have hd := drop_cons s j hj
      rw [hd] at j4
      simp only [rNumF] at j4
      generalize s.data.toList[j]'(by simpa using hj) = b at *
      have hwr : IntKind.i64.wrap ((j : Int) + 1) = ((j + 1 : Nat) : Int) := by rw [IntWalk.i64_in _ (by omega)]; rfl
      refine hgo_sound 60 ?_
      simp -implicitDefEqProofs (maxSteps := 1000000) only [simpS, ↓condJ_true, ↓condJ_false, ↓reduceIte, Nat.reduceEqDiff, Nat.reduceLT, Nat.reduceLeDiff, reduceCtorEq, Nat.reduceAdd, Nat.reduceSub, noneS, listS, implies_true, forall_const, ne_eq, hjd, hjp, Int.toNat_natCast, Int.natCast_nonneg, hb]
      refine hx_call (f := .fn 71) rfl (by rw [hP]; exact hcallD_func (rFigure_calls b _)) ?_
      rintro _ σ2 ⟨rfl, h⟩
      subst σ2
      cases hbf : isFig b
      · rw [hbf] at j4
        have hno : rNumD s = none := by rw [hgo, ← j4]; rfl
        simp only [numV, numB, hno]
        refine hgo_sound 60 ?_
        simp -implicitDefEqProofs (maxSteps := 1000000) only [simpS, ↓condJ_true, ↓condJ_false, ↓reduceIte, Nat.reduceEqDiff, Nat.reduceLT, Nat.reduceLeDiff, reduceCtorEq, Nat.reduceAdd, Nat.reduceSub, noneS, listS, implies_true, forall_const, ne_eq]
        exact fpost_pure (σ0 := σ) (.inr rfl) (by rw [hnx]; exact Nat.le_refl _) hwf (Sub.refl σ) rfl trivial ⟨trivial, trivial, trivial⟩ ⟨rfl, rfl⟩
      · rw [hbf, if_pos rfl] at j4
        obtain ⟨f1, f2, f3⟩ := fig_back hbf
        have hbw : IntKind.i64.wrap (b.toNat : Int) = (b.toNat : Int) := IntWalk.i64_in _ (by omega)
        have hw1 : IntKind.i64.wrap (10 * (n : Int)) = 10 * (n : Int) := IntWalk.i64_in _ (by omega)
        have hw2 : IntKind.i64.wrap (10 * (n : Int) + (b.toNat : Int)) = 10 * (n : Int) + (b.toNat : Int) := IntWalk.i64_in _ (by omega)
        have hw3 : IntKind.i64.wrap (10 * (n : Int) + (b.toNat : Int) - 48) = ((10 * n + (b.toNat - 48) : Nat) : Int) := by rw [IntWalk.i64_in _ (by omega)]; omega
        refine hgo_sound 60 ?_
        simp -implicitDefEqProofs (maxSteps := 1000000) only [simpS, ↓condJ_true, ↓condJ_false, ↓reduceIte, Nat.reduceEqDiff, Nat.reduceLT, Nat.reduceLeDiff, reduceCtorEq, Nat.reduceAdd, Nat.reduceSub, noneS, listS, implies_true, forall_const, ne_eq, hjp, Int.toNat_natCast, Int.natCast_nonneg, hb, hwr, hbw, hw1, hw2, hw3]
        intro hw4 hl2 hn2
        refine ⟨⟨j + 1, 10 * n + (b.toNat - 48)⟩, ⟨by simp only; omega, j4, by simp only; rw [hp11]; omega⟩, by simp only; omega, ?_⟩
        exact Drop.all hw4 hn2 ⟨⟨rfl, trivial⟩, ⟨rfl, trivial⟩, ⟨rfl, trivial⟩, trivial⟩
    · have hjd : decide (((j : Nat) : Int) < (s.size : Int)) = false := by simp [hj]
      have hd : s.data.toList.drop j = [] := List.drop_eq_nil_of_le (by omega)
      rw [hd] at j4
      simp only [rNumF] at j4
      rw [← j4] at hgo
      simp only at hgo
      by_cases hm : n > 2147483647
      · have hmd : decide ((n : Int) > 2147483647) = true := by simp; omega
        rw [if_pos hm] at hgo
        simp only [numV, numB, hgo]
        refine hgo_sound 60 ?_
        simp -implicitDefEqProofs (maxSteps := 1000000) only [simpS, ↓condJ_true, ↓condJ_false, ↓reduceIte, Nat.reduceEqDiff, Nat.reduceLT, Nat.reduceLeDiff, reduceCtorEq, Nat.reduceAdd, Nat.reduceSub, noneS, listS, implies_true, forall_const, ne_eq, hjd, hmd]
        exact fpost_pure (σ0 := σ) (.inr rfl) (by rw [hnx]; exact Nat.le_refl _) hwf (Sub.refl σ) rfl trivial ⟨trivial, trivial, trivial⟩ ⟨rfl, rfl⟩
      · have hmd : decide ((n : Int) > 2147483647) = false := by simp; omega
        rw [if_neg hm] at hgo
        simp only [numV, numB, hgo]
        refine hgo_sound 60 ?_
        simp -implicitDefEqProofs (maxSteps := 1000000) only [simpS, ↓condJ_true, ↓condJ_false, ↓reduceIte, Nat.reduceEqDiff, Nat.reduceLT, Nat.reduceLeDiff, reduceCtorEq, Nat.reduceAdd, Nat.reduceSub, noneS, listS, implies_true, forall_const, ne_eq, hjd, hmd]
        exact fpost_pure (σ0 := σ) (.inr rfl) (by rw [hnx]; exact Nat.le_refl _) hwf (Sub.refl σ) rfl trivial ⟨trivial, trivial, trivial⟩ ⟨rfl, rfl⟩

end Go.Hl
set_option linter.unusedSectionVars false
set_option linter.unusedVariables false
namespace Go.Hl
open Go

def IterAt (P : Program) (f : Nat) (A : D → List D) {X : Type} (enc : X → List D) (xs : List X) (gl : Nat → Option (List D)) : Prop :=
  ∀ (tk : Tk X) (c : tk.C) (y : D), (tk.T c).glob = gl → tk.oks c xs → tk.Takes P enc y → HCalls P f (A y) (tk.T c) fun _ σ' => σ' = tk.T (tk.run c xs).1
theorem Iter.at {P : Program} {f : Nat} {A : D → List D} {X : Type} {enc : X → List D} {xs : List X} (h : Iter P f A enc xs) (gl : Nat → Option (List D)) : IterAt P f A enc xs gl := fun tk c y _ => h tk c y

section
variable {M : Md} {base : HPost} {k : List It} {env : Env} {σ : St}
theorem hx_range_foldA {f : X} {ps : List Nat} {asg body : HC} {fn : Nat} {caps : List D} {T C : Type} {enc : T → List D} {xs : List T} (S : C → St) (ok : C → T → Prop) (step : C → T → C × Option HC) (c0 : C)
    (hf : evX σ env f = .func fn caps) (hbody : hasBody M.P fn = true) (hin : ∀ id l, M.r = some (id, l) → ∃ nt e p a b st, σ.obj id = some (.loop nt e p a b st))
    (it : IterAt M.P fn (fun y => y :: caps) enc xs σ.glob) (hS : S c0 = σ) (hnext : ∀ c, (S c).next = σ.next) (hglob : ∀ c c', (S c).glob = (S c').glob) (hwf : ∀ c, (S c).wf) (he : ∀ t, (look env t).lt σ.next)
    (hok : rngOks ok step c0 xs) (hlen : ∀ x, (enc x).length = ps.length) (hps : ∀ p ∈ ps, p < M.nt)
    (round : ∀ c x τ, ok c x → σ.next + 1 ≤ τ.next → τ.wf → τ.glob = (S c).glob → Round M.P M.nt σ.next env ps asg body (enc x) (mix (σ.next + 1) ((S c).new (.loop M.nt env ps asg body .ready)) τ)
      fun d σ' => d = .bool (step c x).2.isNone ∧ σ' = mix (σ.next + 1) ((S (step c x).1).new (.loop M.nt env ps asg body (.ofJump (step c x).2))) τ)
    (hend : RangeEnd M base k env (S (rngRun step c0 xs).1).bump (rngRun step c0 xs).2) :
    HX M base (.code (.range f ps asg body) :: k) env σ := by
  refine hx_range hf hbody hin ?_
  let tk := rngTk S σ.next M.nt env ps asg body ok step hnext hglob hwf he
  have h0 : tk.T (c0, .ready) = σ.new (.loop M.nt env ps asg body .ready) := by
    show (S c0).new _ = _
    rw [hS]
  rw [← h0]
  refine (it tk (c0, .ready) _ (by rw [h0]; rfl) (rngTk_oks xs c0 hok) ⟨by simp only [D.lt]; exact Nat.lt_succ_self _, rfl, ?_⟩).mono ?_
  · rintro ⟨c, st⟩ x τ hlow ⟨rfl, hk⟩
    have hlow' : Low (σ.next + 1) ((S c).new (.loop M.nt env ps asg body .ready)) τ := hlow
    have hob : τ.obj σ.next = some (.loop M.nt env ps asg body .ready) := by
      rw [hlow'.obj _ (Nat.lt_succ_self _), ← hnext c, St.new_same]
    refine hcallD_yield hob (hlen x) hps fun M' h1 h2 h3 h4 h5 h6 => ?_
    have := round c x τ hk hlow'.next h5 hlow'.glob M' h1 h2 h3
    rw [hlow'.eq] at this
    exact this h4 h5 h6
  · rintro d σ' rfl
    rw [rngTk_run]
    refine ⟨.ofJump (rngRun step c0 xs).2, ?_, ?_⟩
    · show ((S _).new _).obj σ.next = _
      rw [← hnext (rngRun step c0 xs).1, St.new_same]
    · have hd : ∀ st, ((S (rngRun step c0 xs).1).new (.loop M.nt env ps asg body st)).del σ.next = (S (rngRun step c0 xs).1).bump := fun st => by
        refine St.ext' (fun j => ?_) rfl rfl
        simp only [St.obj_del, St.obj_new, St.obj_bump, hnext]
        split
        · rename_i e
          rw [(hwf _).top (by rw [hnext, e]; exact Nat.le_refl _)]
        · rfl
      cases hj : (rngRun step c0 xs).2 with
      | none => rw [hj] at hend; simp only [LSt.ofJump]; show HX M base k env (((S _).new _).del σ.next); rw [hd]; exact hend
      | some j => rw [hj] at hend; simp only [LSt.ofJump]; show HX M base (.code j :: k) env (((S _).new _).del σ.next); rw [hd]; exact hend
end

def tlC : HC → HC
  | .seq _ b => b
  | c => c

end Go.Hl
set_option linter.unusedSectionVars false
set_option linter.unusedVariables false
set_option linter.unusedSimpArgs false
set_option maxRecDepth 100000
namespace Go.Hl
open Go Go.Proofs Go.RowKit

def lenTo : List UInt8 → Nat
  | [] => 0
  | b :: r => if b = 10 then 0 else lenTo r + 1

theorem lenTo_le : ∀ l, lenTo l ≤ l.length
  | [] => Nat.le_refl _
  | b :: r => by
    have := lenTo_le r
    simp only [lenTo]
    split
    · omega
    · simp only [List.length_cons]; omega

theorem indexByte_lenTo : ∀ l : List UInt8, Lib.indexByte l 10 = if lenTo l < l.length then (lenTo l : Int) else -1
  | [] => by simp [Lib.indexByte, lenTo]
  | b :: r => by
    have ih := indexByte_lenTo r
    have hle := lenTo_le r
    by_cases hb : b = 10
    · subst hb
      simp [Lib.indexByte, lenTo]
    · have hb' : (b == 10) = false := by simpa using hb
      simp only [Lib.indexByte, lenTo, hb', if_neg hb, ih, List.length_cons, Bool.false_eq_true, if_false]
      by_cases h : lenTo r < r.length
      · rw [if_pos h, if_pos (show lenTo r + 1 < r.length + 1 by omega)]
        have h1 : ((lenTo r : Int) == -1) = false := by simp
        rw [h1]
        simp
      · rw [if_neg h, if_neg (show ¬ lenTo r + 1 < r.length + 1 by omega)]
        rfl

theorem indexByteString_calls (s : ByteArray) (b : UInt8) (σ : St) : HCalls Tryz.prog 81 [.str s, byD b] σ (fun d σ' => d = .int .i64 (Lib.indexByte s.data.toList b) ∧ σ' = σ) := by
  intro g w vs hr hl
  simp only [RL, R] at hl
  obtain ⟨_, _, rfl, rfl, _, _, rfl, rfl, rfl⟩ := hl
  show NextOk Tryz.prog _ ((callFunc 81 #[.string s, .int .u8 (b.toNat : Int)]).run Tryz.prog w)
  rw [run_callFunc_extern Tryz.func81 (by kernel_rfl) (by kernel_rfl) (by kernel_rfl) (e := Extern.BytealgIndexByte.indexByte) (by kernel_rfl), Lib.run_indexByteString]
  have hb : ((b.toNat : Int)).toNat.toUInt8 = b := by simp
  rw [hb]
  exact ⟨.int .i64 (Lib.indexByte s.data.toList b), g, σ, E.refl g w hr.gw, hr, rfl, rfl, rfl⟩

theorem lindexByte_calls (s : ByteArray) (b : UInt8) (σ : St) : HCalls Tryz.prog 69 [.str s, byD b] σ (fun d σ' => d = .int .i64 (Lib.indexByte s.data.toList b) ∧ σ' = σ) := by
  refine hcalls_body (fn := Tryz.f69) rfl c69 (by simp [h69]) (by simp [h69, Tryz.f69]) ?_
  intro M hP hr hnt hnx hwf hlt
  simp only [h69, argEnv]
  refine hgo_sound 60 ?_
  simp -implicitDefEqProofs (maxSteps := 1000000) only [simpS, ↓condJ_true, ↓condJ_false, ↓reduceIte, Nat.reduceEqDiff, Nat.reduceLT, Nat.reduceLeDiff, reduceCtorEq, Nat.reduceAdd, Nat.reduceSub, noneS, listS, implies_true, forall_const, ne_eq]
  refine hx_call (f := .fn 81) rfl (by rw [hP]; exact hcallD_func (indexByteString_calls s b _)) ?_
  rintro _ σ2 ⟨rfl, h⟩
  subst σ2
  refine hgo_sound 60 ?_
  simp -implicitDefEqProofs (maxSteps := 1000000) only [simpS, ↓condJ_true, ↓condJ_false, ↓reduceIte, Nat.reduceEqDiff, Nat.reduceLT, Nat.reduceLeDiff, reduceCtorEq, Nat.reduceAdd, Nat.reduceSub, noneS, listS, implies_true, forall_const, ne_eq]
  exact fpost_pure (σ0 := σ) (.inr rfl) (by rw [hnx]; exact Nat.le_refl _) hwf (Sub.refl σ) rfl trivial trivial ⟨rfl, rfl⟩

theorem index1_calls (s : ByteArray) (b : UInt8) (σ : St) : HCalls Tryz.prog 82 [.str s, .str ⟨#[b]⟩] σ (fun d σ' => d = .int .i64 (Lib.indexByte s.data.toList b) ∧ σ' = σ) := by
  refine hcalls_body (fn := Tryz.f82) rfl c82 (by simp [h82]) (by simp [h82, Tryz.f82]) ?_
  intro M hP hr hnt hnx hwf hlt
  simp only [h82, argEnv]
  have h1 : ((⟨#[b]⟩ : ByteArray).size : Int) = 1 := rfl
  have h2 : (⟨#[b]⟩ : ByteArray).data.getD (Int.toNat 0) 0 = b := rfl
  have h3 : ((1 : Int) == 0) = false := rfl
  refine hgo_sound 60 ?_
  simp -implicitDefEqProofs (maxSteps := 1000000) only [simpS, ↓condJ_true, ↓condJ_false, ↓reduceIte, Nat.reduceEqDiff, Nat.reduceLT, Nat.reduceLeDiff, reduceCtorEq, Nat.reduceAdd, Nat.reduceSub, noneS, listS, implies_true, forall_const, ne_eq, h1, h2, h3, beq_self_eq_true, Int.le_refl, show (0 : Int) < 1 by decide]
  refine ⟨fun h => ?_, fun _ => ?_⟩
  · have h' : (⟨#[b]⟩ : ByteArray) = s := by simpa using h
    subst h'
    exact fpost_pure (σ0 := σ) (.inr rfl) (by rw [hnx]; exact Nat.le_refl _) hwf (Sub.refl σ) rfl trivial trivial ⟨by simp [tupD, look, Lib.indexByte], rfl⟩
  · skip
    refine hx_call (f := .fn 69) rfl (by rw [hP]; exact hcallD_func (lindexByte_calls s b _)) ?_
    rintro _ σ2 ⟨rfl, h⟩
    subst σ2
    refine hgo_sound 60 ?_
    simp -implicitDefEqProofs (maxSteps := 1000000) only [simpS, ↓condJ_true, ↓condJ_false, ↓reduceIte, Nat.reduceEqDiff, Nat.reduceLT, Nat.reduceLeDiff, reduceCtorEq, Nat.reduceAdd, Nat.reduceSub, noneS, listS, implies_true, forall_const, ne_eq]
    exact fpost_pure (σ0 := σ) (.inr rfl) (by rw [hnx]; exact Nat.le_refl _) hwf (Sub.refl σ) rfl trivial trivial ⟨rfl, rfl⟩

def cutL (t : ByteArray) : List D :=
  let n := lenTo t.data.toList
  if n < t.size then [.str (t.extract 0 n), .str (t.extract (n + 1) t.size), .bool true] else [.str t, .str ⟨#[]⟩, .bool false]

theorem lcut_calls (t : ByteArray) (ht : t.size ≤ 1099511627776) (σ : St) : HCalls Tryz.prog 74 [.str t, .str ⟨#[10]⟩] σ (fun d σ' => d = .tuple (cutL t) ∧ σ' = σ) := by
  refine hcalls_body (fn := Tryz.f74) rfl c74 (by simp [h74]) (by simp [h74, Tryz.f74]) ?_
  intro M hP hr hnt hnx hwf hlt
  simp only [h74, argEnv]
  have hnt' : M.nt = 23 := hnt
  have h1 : ((⟨#[10]⟩ : ByteArray).size : Int) = 1 := rfl
  have hlen : t.data.toList.length = t.size := by simp
  refine hgo_sound 60 ?_
  simp -implicitDefEqProofs (maxSteps := 1000000) only [simpS, ↓condJ_true, ↓condJ_false, ↓reduceIte, Nat.reduceEqDiff, Nat.reduceLT, Nat.reduceLeDiff, reduceCtorEq, Nat.reduceAdd, Nat.reduceSub, noneS, listS, implies_true, forall_const, ne_eq]
  refine hx_call (f := .fn 82) rfl (by rw [hP]; exact hcallD_func (index1_calls t 10 _)) ?_
  rintro _ σ2 ⟨rfl, h⟩
  subst σ2
  rw [indexByte_lenTo, hlen]
  unfold cutL
  by_cases h : lenTo t.data.toList < t.size
  · simp only [if_pos h]
    have hd : decide ((lenTo t.data.toList : Int) ≥ 0) = true := by simp
    have hw : IntKind.i64.wrap ((lenTo t.data.toList : Int) + 1) = ((lenTo t.data.toList + 1 : Nat) : Int) := by rw [IntWalk.i64_in _ (by omega)]; rfl
    refine hgo_sound 12 ?_
    simp -implicitDefEqProofs (maxSteps := 1000000) only [simpS, ↓condJ_true, ↓condJ_false, ↓reduceIte, Nat.reduceEqDiff, Nat.reduceLT, Nat.reduceLeDiff, reduceCtorEq, Nat.reduceAdd, Nat.reduceSub, noneS, listS, implies_true, forall_const, ne_eq, hd]
    refine hx_drawgo 1 ?_
    simp -implicitDefEqProofs (maxSteps := 3000000) only [drawS, listS, List.getElem?_cons_zero, List.getElem?_cons_succ, List.getElem?_nil, simpS, ↓condJ_true, ↓condJ_false, ↓reduceIte, Nat.reduceEqDiff, Nat.reduceLT, Nat.reduceLeDiff, reduceCtorEq, Nat.reduceAdd, Nat.reduceSub, noneS, listS, implies_true, forall_const, ne_eq, hnt', h1, hw, Int.toNat_natCast]
    refine ⟨by omega, ?_⟩
    refine hgo_sound 60 ?_
    simp -implicitDefEqProofs (maxSteps := 1000000) only [simpS, ↓condJ_true, ↓condJ_false, ↓reduceIte, Nat.reduceEqDiff, Nat.reduceLT, Nat.reduceLeDiff, reduceCtorEq, Nat.reduceAdd, Nat.reduceSub, noneS, listS, implies_true, forall_const, ne_eq]
    exact fpost_pure (σ0 := σ) (.inr rfl) (by rw [hnx]; exact Nat.le_refl _) hwf (Sub.refl σ) rfl trivial ⟨trivial, trivial, trivial, trivial⟩ ⟨rfl, rfl⟩
  · simp only [if_neg h]
    have hd : decide ((-1 : Int) ≥ 0) = false := rfl
    refine hgo_sound 60 ?_
    simp -implicitDefEqProofs (maxSteps := 1000000) only [simpS, ↓condJ_true, ↓condJ_false, ↓reduceIte, Nat.reduceEqDiff, Nat.reduceLT, Nat.reduceLeDiff, reduceCtorEq, Nat.reduceAdd, Nat.reduceSub, noneS, listS, implies_true, forall_const, ne_eq, hd]
    exact fpost_pure (σ0 := σ) (.inr rfl) (by rw [hnx]; exact Nat.le_refl _) hwf (Sub.refl σ) rfl trivial ⟨trivial, trivial, trivial, trivial⟩ ⟨rfl, rfl⟩

theorem cut_calls (t : ByteArray) (ht : t.size ≤ 1099511627776) (σ : St) : HCalls Tryz.prog 61 [.str t, .str ⟨#[10]⟩] σ (fun d σ' => d = .tuple (cutL t) ∧ σ' = σ) := by
  refine hcalls_body (fn := Tryz.f61) rfl c61 (by simp [h61]) (by simp [h61, Tryz.f61]) ?_
  intro M hP hr hnt hnx hwf hlt
  simp only [h61, argEnv]
  refine hgo_sound 60 ?_
  simp -implicitDefEqProofs (maxSteps := 1000000) only [simpS, ↓condJ_true, ↓condJ_false, ↓reduceIte, Nat.reduceEqDiff, Nat.reduceLT, Nat.reduceLeDiff, reduceCtorEq, Nat.reduceAdd, Nat.reduceSub, noneS, listS, implies_true, forall_const, ne_eq]
  refine hx_call (f := .fn 74) rfl (by rw [hP]; exact hcallD_func (lcut_calls t ht _)) ?_
  rintro _ σ2 ⟨rfl, h⟩
  subst σ2
  unfold cutL
  by_cases h : lenTo t.data.toList < t.size
  · simp only [if_pos h]
    refine hgo_sound 60 ?_
    simp -implicitDefEqProofs (maxSteps := 1000000) only [simpS, ↓condJ_true, ↓condJ_false, ↓reduceIte, Nat.reduceEqDiff, Nat.reduceLT, Nat.reduceLeDiff, reduceCtorEq, Nat.reduceAdd, Nat.reduceSub, noneS, listS, implies_true, forall_const, ne_eq]
    exact fpost_pure (σ0 := σ) (.inr rfl) (by rw [hnx]; exact Nat.le_refl _) hwf (Sub.refl σ) rfl trivial ⟨trivial, trivial, trivial, trivial⟩ ⟨rfl, rfl⟩
  · simp only [if_neg h]
    refine hgo_sound 60 ?_
    simp -implicitDefEqProofs (maxSteps := 1000000) only [simpS, ↓condJ_true, ↓condJ_false, ↓reduceIte, Nat.reduceEqDiff, Nat.reduceLT, Nat.reduceLeDiff, reduceCtorEq, Nat.reduceAdd, Nat.reduceSub, noneS, listS, implies_true, forall_const, ne_eq]
    exact fpost_pure (σ0 := σ) (.inr rfl) (by rw [hnx]; exact Nat.le_refl _) hwf (Sub.refl σ) rfl trivial ⟨trivial, trivial, trivial, trivial⟩ ⟨rfl, rfl⟩

end Go.Hl
set_option linter.unusedSectionVars false
set_option linter.unusedVariables false
set_option linter.unusedSimpArgs false
set_option maxRecDepth 100000
namespace Go.Hl
open Go Go.Proofs Go.RowKit

structure GM (σ : St) : Prop where
  gk : GK σ
  ml : ∃ m, σ.glob 1 = some [.int .i64 m]
theorem GM.to {σ σ' : St} (h : GM σ) (e : σ'.glob = σ.glob) : GM σ' := ⟨h.gk.to e, by rw [e]; exact h.ml⟩

theorem linside_calls (b : UInt8) (σ : St) : HCalls Tryz.prog 51 [byD b] σ (fun d σ' => d = .bool (insP b) ∧ σ' = σ) := by
  refine hcalls_body (fn := Tryz.f51) rfl c51 (by simp [h51]) (by simp [h51, Tryz.f51]) ?_
  intro M hP hr hnt hnx hwf hlt
  simp only [h51, argEnv]
  have hnt' : M.nt = 9 := hnt
  refine hgo_sound 60 ?_
  simp -implicitDefEqProofs (maxSteps := 1000000) only [simpS, ↓condJ_true, ↓condJ_false, ↓reduceIte, Nat.reduceEqDiff, Nat.reduceLT, Nat.reduceLeDiff, reduceCtorEq, Nat.reduceAdd, Nat.reduceSub, noneS, listS, implies_true, forall_const, ne_eq]
  refine hx_call (f := .fn 64) rfl (by rw [hP]; exact hcallD_func (letter_calls b _)) ?_
  rintro _ σ2 ⟨rfl, h⟩
  subst σ2
  unfold insP
  cases h1 : isLet b
  · refine hgo_sound 60 ?_
    simp -implicitDefEqProofs (maxSteps := 1000000) only [simpS, ↓condJ_true, ↓condJ_false, ↓reduceIte, Nat.reduceEqDiff, Nat.reduceLT, Nat.reduceLeDiff, reduceCtorEq, Nat.reduceAdd, Nat.reduceSub, noneS, listS, implies_true, forall_const, ne_eq]
    refine hx_call (f := .fn 65) rfl (by rw [hP]; exact hcallD_func (figure_calls b _)) ?_
    rintro _ σ2 ⟨rfl, h⟩
    subst σ2
    refine hgo_sound 60 ?_
    simp -implicitDefEqProofs (maxSteps := 1000000) only [simpS, ↓condJ_true, ↓condJ_false, ↓reduceIte, Nat.reduceEqDiff, Nat.reduceLT, Nat.reduceLeDiff, reduceCtorEq, Nat.reduceAdd, Nat.reduceSub, noneS, listS, implies_true, forall_const, ne_eq]
    exact fpost_pure (σ0 := σ) (.inr rfl) (by rw [hnx]; exact Nat.le_refl _) hwf (by first | exact Sub.refl σ | exact (((Ext.refl _).new _).sub hwf)) rfl trivial (by repeat' (first | trivial | apply And.intro)) ⟨by simp [tupD, look], rfl⟩
  · refine hgo_sound 60 ?_
    simp -implicitDefEqProofs (maxSteps := 1000000) only [simpS, ↓condJ_true, ↓condJ_false, ↓reduceIte, Nat.reduceEqDiff, Nat.reduceLT, Nat.reduceLeDiff, reduceCtorEq, Nat.reduceAdd, Nat.reduceSub, noneS, listS, implies_true, forall_const, ne_eq]
    exact fpost_pure (σ0 := σ) (.inr rfl) (by rw [hnx]; exact Nat.le_refl _) hwf (by first | exact Sub.refl σ | exact (((Ext.refl _).new _).sub hwf)) rfl trivial (by repeat' (first | trivial | apply And.intro)) ⟨by simp [tupD, look], rfl⟩

theorem hasPrefix_calls (s p : ByteArray) (σ : St) : HCalls Tryz.prog 48 [.str s, .str p] σ (fun d σ' => d = .bool (p.data.toList.isPrefixOf s.data.toList) ∧ σ' = σ) := by
  refine hcalls_plain (by kernel_rfl) fun g w vs hr hl => ?_
  simp only [RL, R] at hl
  obtain ⟨u0, us, rfl, rfl, u1, us1, rfl, rfl, rfl⟩ := hl
  refine (Tryz.strings_HasPrefix s p w).mono ?_
  rintro e w' ⟨rfl, rfl⟩
  exact ⟨_, .bool (p.data.toList.isPrefixOf s.data.toList), rfl, E.refl g _ hr.gw, hr, by simp only [R]; rfl, rfl, rfl⟩

theorem lhasPrefix_calls (s p : ByteArray) (σ : St) : HCalls Tryz.prog 60 [.str s, .str p] σ (fun d σ' => d = .bool (p.data.toList.isPrefixOf s.data.toList) ∧ σ' = σ) := by
  refine hcalls_plain (by kernel_rfl) fun g w vs hr hl => ?_
  simp only [RL, R] at hl
  obtain ⟨u0, us, rfl, rfl, u1, us1, rfl, rfl, rfl⟩ := hl
  refine (Tryz.stringslite_HasPrefix s p w).mono ?_
  rintro e w' ⟨rfl, rfl⟩
  exact ⟨_, .bool (p.data.toList.isPrefixOf s.data.toList), rfl, E.refl g _ hr.gw, hr, by simp only [R]; rfl, rfl, rfl⟩

theorem index_calls (s p : ByteArray) (hs : s.size ≤ 1073741824) (σ : St) (hg : GM σ) : HCalls Tryz.prog 75 [.str s, .str p] σ (fun d σ' => d = .int .i64 (Lib.index s.data.toList p.data.toList) ∧ σ' = σ) := by
  refine hcalls_plain (by kernel_rfl) fun g w vs hr hl => ?_
  simp only [RL, R] at hl
  obtain ⟨u0, us, rfl, rfl, u1, us1, rfl, rfl, rfl⟩ := hl
  obtain ⟨m, hm⟩ := hg.ml
  obtain ⟨u, hu, hR⟩ := (hr.glob _ _ hm).cell (i := 0) (d := .int .i64 m) rfl
  simp only [R] at hR
  subst hR
  refine (Tryz.strings_Index s p m w (by omega) hu).mono ?_
  rintro e w' ⟨rfl, rfl⟩
  exact ⟨_, .int .i64 (Lib.index s.data.toList p.data.toList), rfl, E.refl g _ hr.gw, hr, by simp only [R], rfl, rfl⟩

abbrev prnL : List UInt8 := [83, 121, 115, 116, 101, 109, 46, 111, 117, 116, 46, 112, 114, 105, 110, 116, 108, 110]
abbrev sgnL : List UInt8 := [123, 125, 40, 41, 91, 93, 59, 44, 46, 61, 60, 43, 45, 42, 33]

def ix2 : List UInt8 → Option Nat
  | [] => none
  | b :: r => if [42, 47].isPrefixOf (b :: r) then some 0 else (ix2 r).map (· + 1)
theorem index_ix2 : ∀ l : List UInt8, Lib.index l [42, 47] = match ix2 l with | some i => (i : Int) | none => -1
  | [] => rfl
  | b :: r => by
    have ih := index_ix2 r
    simp only [Lib.index, ix2]
    by_cases h : [42, 47].isPrefixOf (b :: r) = true
    · rw [if_pos h, if_pos h]; rfl
    · rw [if_neg h, if_neg h, ih]
      cases hx : ix2 r with
      | none => rfl
      | some i =>
        have : ((i : Int) == -1) = false := by simp
        simp only [Option.map_some, this, Bool.false_eq_true, if_false]
        rfl
theorem ix2_le : ∀ (l : List UInt8) (i : Nat), ix2 l = some i → i + 2 ≤ l.length
  | [], i, h => by cases h
  | b :: r, i, h => by
    simp only [ix2] at h
    split at h
    · rename_i hp
      injection h with h
      subst h
      have := (List.isPrefixOf_iff_prefix.1 hp).length_le
      simpa using this
    · obtain ⟨j, hj, rfl⟩ := Option.map_eq_some_iff.1 h
      have := ix2_le r j hj
      simp only [List.length_cons]
      omega

def prnd (l : List UInt8) : Bool := prnL.isPrefixOf l && (match l.drop 18 with | [] => true | c :: _ => !insP c)
def wordK (s : ByteArray) : Nat := if isKw s then 3 else if isWord s then 4 else if numE s = 0 then 5 else 7
def sgl (c : UInt8) : Bool := decide (Lib.indexByte sgnL c ≥ 0)
abbrev bsL (l : List UInt8) : ByteArray := ⟨l.toArray⟩

def lexN (l : List UInt8) : Nat × Nat :=
  if isBlk (l.headD 0) then (1, runTo isBlk l)
  else if [47, 47].isPrefixOf l then (2, lenTo l)
  else if [47, 42].isPrefixOf l then (match ix2 (l.drop 2) with | some i => (2, i + 4) | none => (7, l.length))
  else if prnd l then (3, 18)
  else if insP (l.headD 0) then (wordK (bsL (l.take (runTo insP l))), runTo insP l)
  else if [38, 38].isPrefixOf l then (6, 2)
  else if sgl (l.headD 0) then (6, 1) else (7, 1)

theorem runTo_le (p : UInt8 → Bool) (l : List UInt8) : runTo p l ≤ l.length := (runTo_all p l).1
theorem runTo_pos (p : UInt8 → Bool) : ∀ (l : List UInt8), l ≠ [] → p (l.headD 0) = true → 1 ≤ runTo p l
  | [], h, _ => absurd rfl h
  | b :: r, _, h => by
    simp only [List.headD_cons] at h
    simp only [runTo, h, if_true]
    omega

theorem lexN_len (l : List UInt8) (h : l ≠ []) : 1 ≤ (lexN l).2 ∧ (lexN l).2 ≤ l.length := by
  have hl : 1 ≤ l.length := by cases l with | nil => exact absurd rfl h | cons => simp
  unfold lexN
  split
  · rename_i hb
    exact ⟨runTo_pos _ l h hb, runTo_le _ l⟩
  split
  · rename_i hp
    obtain ⟨t, rfl⟩ := List.isPrefixOf_iff_prefix.1 hp
    have := lenTo_le ([47, 47] ++ t)
    refine ⟨?_, this⟩
    simp [lenTo]
  split
  · rename_i hp
    split
    · rename_i i hi
      have := ix2_le _ _ hi
      rw [List.length_drop] at this
      simp only
      omega
    · exact ⟨hl, Nat.le_refl _⟩
  split
  · rename_i hp
    simp only [prnd, Bool.and_eq_true] at hp
    have := (List.isPrefixOf_iff_prefix.1 hp.1).length_le
    simp only [List.length_cons, List.length_nil] at this
    exact ⟨by decide, by simp only; omega⟩
  split
  · rename_i hb
    exact ⟨runTo_pos _ l h hb, runTo_le _ l⟩
  split
  · rename_i hp
    have := (List.isPrefixOf_iff_prefix.1 hp).length_le
    simp only [List.length_cons, List.length_nil] at this
    exact ⟨by decide, by simp only; omega⟩
  split <;> exact ⟨Nat.le_refl _, hl⟩

theorem len_list (s : ByteArray) : s.data.toList.length = s.size := by simp
theorem ex_drop (s : ByteArray) (a : Nat) : (s.extract a s.size).data.toList = s.data.toList.drop a := by
  rw [ByteArray.data_extract]
  simp [List.extract, List.take_of_length_le]
theorem ex_take (s : ByteArray) (n : Nat) : s.extract 0 n = bsL (s.data.toList.take n) := by
  apply ByteArray.ext
  apply Array.toList_inj.1
  rw [ByteArray.data_extract]
  simp [List.extract]

theorem upto_calls (s : ByteArray) (hs : s.size ≤ 1073741824) (σ : St) (hg : GM σ) : HCalls Tryz.prog 62 [.str s, .str ⟨#[42, 47]⟩] σ (fun d σ' => d = .tuple (match ix2 s.data.toList with | some i => [.int .i64 ((i + 2 : Nat) : Int), .bool true] | none => [.int .i64 (s.size : Int), .bool false]) ∧ σ' = σ) := by
  refine hcalls_body (fn := Tryz.f62) rfl c62 (by simp [h62]) (by simp [h62, Tryz.f62]) ?_
  intro M hP hr hnt hnx hwf hlt
  simp only [h62, argEnv]
  refine hgo_sound 60 ?_
  simp -implicitDefEqProofs (maxSteps := 1000000) only [simpS, ↓condJ_true, ↓condJ_false, ↓reduceIte, Nat.reduceEqDiff, Nat.reduceLT, Nat.reduceLeDiff, reduceCtorEq, Nat.reduceAdd, Nat.reduceSub, noneS, listS, implies_true, forall_const, ne_eq]
  refine hx_call (f := .fn 75) rfl (by rw [hP]; exact hcallD_func (index_calls s ⟨#[42, 47]⟩ hs _ hg)) ?_
  rintro _ σ2 ⟨rfl, h⟩
  subst σ2
  have h1 : Lib.index s.data.toList (⟨#[42, 47]⟩ : ByteArray).data.toList = _ := index_ix2 s.data.toList
  rw [h1]
  cases hx : ix2 s.data.toList with
  | none =>
    refine hgo_sound 60 ?_
    simp -implicitDefEqProofs (maxSteps := 1000000) only [simpS, ↓condJ_true, ↓condJ_false, ↓reduceIte, Nat.reduceEqDiff, Nat.reduceLT, Nat.reduceLeDiff, reduceCtorEq, Nat.reduceAdd, Nat.reduceSub, noneS, listS, implies_true, forall_const, ne_eq, show decide ((-1 : Int) < 0) = true by rfl]
    exact fpost_pure (σ0 := σ) (.inr rfl) (by rw [hnx]; exact Nat.le_refl _) hwf (by first | exact Sub.refl σ | exact (((Ext.refl _).new _).sub hwf)) rfl trivial (by repeat' (first | trivial | apply And.intro)) ⟨rfl, rfl⟩
  | some i =>
    have hle := ix2_le _ _ hx
    rw [len_list] at hle
    have hd : decide ((i : Int) < 0) = false := by simp
    have hz : (((⟨#[42, 47]⟩ : ByteArray).size : Nat) : Int) = 2 := rfl
    have hw : IntKind.i64.wrap ((i : Int) + 2) = ((i + 2 : Nat) : Int) := by rw [IntWalk.i64_in _ (by omega)]; rfl
    refine hgo_sound 60 ?_
    simp -implicitDefEqProofs (maxSteps := 1000000) only [simpS, ↓condJ_true, ↓condJ_false, ↓reduceIte, Nat.reduceEqDiff, Nat.reduceLT, Nat.reduceLeDiff, reduceCtorEq, Nat.reduceAdd, Nat.reduceSub, noneS, listS, implies_true, forall_const, ne_eq, hd, hz, hw]
    exact fpost_pure (σ0 := σ) (.inr rfl) (by rw [hnx]; exact Nat.le_refl _) hwf (by first | exact Sub.refl σ | exact (((Ext.refl _).new _).sub hwf)) rfl trivial (by repeat' (first | trivial | apply And.intro)) ⟨rfl, rfl⟩

theorem note_calls (s : ByteArray) (hs : s.size ≤ 1073741824) (hp : ([47, 47] : List UInt8).isPrefixOf s.data.toList || ([47, 42] : List UInt8).isPrefixOf s.data.toList) (σ : St) (hg : GM σ) :
    HCalls Tryz.prog 49 [.str s] σ (fun d σ' => d = .tuple (if ([47, 47] : List UInt8).isPrefixOf s.data.toList then [.int .i64 2, .int .i64 (lenTo s.data.toList : Int)] else match ix2 (s.data.toList.drop 2) with | some i => [.int .i64 2, .int .i64 ((i + 4 : Nat) : Int)] | none => [.int .i64 7, .int .i64 (s.size : Int)]) ∧ σ' = σ) := by
  refine hcalls_body (fn := Tryz.f49) rfl c49 (by simp [h49]) (by simp [h49, Tryz.f49]) ?_
  intro M hP hr hnt hnx hwf hlt
  simp only [h49, argEnv]
  refine hgo_sound 60 ?_
  simp -implicitDefEqProofs (maxSteps := 1000000) only [simpS, ↓condJ_true, ↓condJ_false, ↓reduceIte, Nat.reduceEqDiff, Nat.reduceLT, Nat.reduceLeDiff, reduceCtorEq, Nat.reduceAdd, Nat.reduceSub, noneS, listS, implies_true, forall_const, ne_eq]
  refine hx_call (f := .fn 48) rfl (by rw [hP]; exact hcallD_func (hasPrefix_calls s ⟨#[47, 47]⟩ _)) ?_
  rintro _ σ2 ⟨rfl, h⟩
  subst σ2
  have h1 : (⟨#[47, 47]⟩ : ByteArray).data.toList = [47, 47] := rfl
  rw [h1]
  cases h2 : ([47, 47] : List UInt8).isPrefixOf s.data.toList
  · rw [h2, Bool.false_or] at hp
    have hlen := (List.isPrefixOf_iff_prefix.1 hp).length_le
    rw [len_list] at hlen
    simp only [List.length_cons, List.length_nil] at hlen
    have h02 : (0 : Int) ≤ 2 ∧ (2 : Int) ≤ (s.size : Int) := by omega
    have hz : (s.extract 2 s.size).size = s.size - 2 := by rw [ByteArray.size_extract]; omega
    have hdr := ex_drop s 2
    have htn : (2 : Int).toNat = 2 := rfl
    refine hgo_sound 60 ?_
    simp -implicitDefEqProofs (maxSteps := 1000000) only [simpS, ↓condJ_true, ↓condJ_false, ↓reduceIte, Nat.reduceEqDiff, Nat.reduceLT, Nat.reduceLeDiff, reduceCtorEq, Nat.reduceAdd, Nat.reduceSub, noneS, listS, implies_true, forall_const, ne_eq, h02.1, h02.2, htn]
    refine hx_call (f := .fn 62) rfl (by rw [hP]; exact hcallD_func (upto_calls (s.extract 2 s.size) (by omega) _ hg)) ?_
    rintro _ σ2 ⟨rfl, h⟩
    subst σ2
    rw [hdr]
    cases hx : ix2 (s.data.toList.drop 2) with
    | none =>
      refine hgo_sound 60 ?_
      simp -implicitDefEqProofs (maxSteps := 1000000) only [simpS, ↓condJ_true, ↓condJ_false, ↓reduceIte, Nat.reduceEqDiff, Nat.reduceLT, Nat.reduceLeDiff, reduceCtorEq, Nat.reduceAdd, Nat.reduceSub, noneS, listS, implies_true, forall_const, ne_eq]
      exact fpost_pure (σ0 := σ) (.inr rfl) (by rw [hnx]; exact Nat.le_refl _) hwf (by first | exact Sub.refl σ | exact (((Ext.refl _).new _).sub hwf)) rfl trivial (by repeat' (first | trivial | apply And.intro)) ⟨rfl, rfl⟩
    | some i =>
      have hle := ix2_le _ _ hx
      rw [List.length_drop, len_list] at hle
      have hw : IntKind.i64.wrap (2 + ((i + 2 : Nat) : Int)) = ((i + 4 : Nat) : Int) := by rw [IntWalk.i64_in _ (by omega)]; omega
      refine hgo_sound 60 ?_
      simp -implicitDefEqProofs (maxSteps := 1000000) only [simpS, ↓condJ_true, ↓condJ_false, ↓reduceIte, Nat.reduceEqDiff, Nat.reduceLT, Nat.reduceLeDiff, reduceCtorEq, Nat.reduceAdd, Nat.reduceSub, noneS, listS, implies_true, forall_const, ne_eq, hw]
      exact fpost_pure (σ0 := σ) (.inr rfl) (by rw [hnx]; exact Nat.le_refl _) hwf (by first | exact Sub.refl σ | exact (((Ext.refl _).new _).sub hwf)) rfl trivial (by repeat' (first | trivial | apply And.intro)) ⟨rfl, rfl⟩
  · refine hgo_sound 60 ?_
    simp -implicitDefEqProofs (maxSteps := 1000000) only [simpS, ↓condJ_true, ↓condJ_false, ↓reduceIte, Nat.reduceEqDiff, Nat.reduceLT, Nat.reduceLeDiff, reduceCtorEq, Nat.reduceAdd, Nat.reduceSub, noneS, listS, implies_true, forall_const, ne_eq]
    refine hx_call (f := .fn 61) rfl (by rw [hP]; exact hcallD_func (cut_calls s (by omega) _)) ?_
    rintro _ σ2 ⟨rfl, h⟩
    subst σ2
    have hle := lenTo_le s.data.toList
    rw [len_list] at hle
    unfold cutL
    by_cases h : lenTo s.data.toList < s.size
    · have hz : ((s.extract 0 (lenTo s.data.toList)).size : Int) = (lenTo s.data.toList : Int) := by rw [ByteArray.size_extract]; omega
      simp only [if_pos h]
      refine hgo_sound 60 ?_
      simp -implicitDefEqProofs (maxSteps := 1000000) only [simpS, ↓condJ_true, ↓condJ_false, ↓reduceIte, Nat.reduceEqDiff, Nat.reduceLT, Nat.reduceLeDiff, reduceCtorEq, Nat.reduceAdd, Nat.reduceSub, noneS, listS, implies_true, forall_const, ne_eq, hz]
      exact fpost_pure (σ0 := σ) (.inr rfl) (by rw [hnx]; exact Nat.le_refl _) hwf (by first | exact Sub.refl σ | exact (((Ext.refl _).new _).sub hwf)) rfl trivial (by repeat' (first | trivial | apply And.intro)) ⟨rfl, rfl⟩
    · have hz : (s.size : Int) = (lenTo s.data.toList : Int) := by omega
      simp only [if_neg h]
      refine hgo_sound 60 ?_
      simp -implicitDefEqProofs (maxSteps := 1000000) only [simpS, ↓condJ_true, ↓condJ_false, ↓reduceIte, Nat.reduceEqDiff, Nat.reduceLT, Nat.reduceLeDiff, reduceCtorEq, Nat.reduceAdd, Nat.reduceSub, noneS, listS, implies_true, forall_const, ne_eq, hz]
      exact fpost_pure (σ0 := σ) (.inr rfl) (by rw [hnx]; exact Nat.le_refl _) hwf (by first | exact Sub.refl σ | exact (((Ext.refl _).new _).sub hwf)) rfl trivial (by repeat' (first | trivial | apply And.intro)) ⟨rfl, rfl⟩

theorem lcutPrefix_calls (s p : ByteArray) (σ : St) : HCalls Tryz.prog 76 [.str s, .str p] σ (fun d σ' => d = .tuple (if p.data.toList.isPrefixOf s.data.toList then [.str (s.extract p.size s.size), .bool true] else [.str s, .bool false]) ∧ σ' = σ) := by
  refine hcalls_body (fn := Tryz.f76) rfl c76 (by simp [h76]) (by simp [h76, Tryz.f76]) ?_
  intro M hP hr hnt hnx hwf hlt
  simp only [h76, argEnv]
  refine hgo_sound 60 ?_
  simp -implicitDefEqProofs (maxSteps := 1000000) only [simpS, ↓condJ_true, ↓condJ_false, ↓reduceIte, Nat.reduceEqDiff, Nat.reduceLT, Nat.reduceLeDiff, reduceCtorEq, Nat.reduceAdd, Nat.reduceSub, noneS, listS, implies_true, forall_const, ne_eq]
  refine hx_call (f := .fn 60) rfl (by rw [hP]; exact hcallD_func (lhasPrefix_calls s p _)) ?_
  rintro _ σ2 ⟨rfl, h⟩
  subst σ2
  cases h : p.data.toList.isPrefixOf s.data.toList
  · refine hgo_sound 60 ?_
    simp -implicitDefEqProofs (maxSteps := 1000000) only [simpS, ↓condJ_true, ↓condJ_false, ↓reduceIte, Nat.reduceEqDiff, Nat.reduceLT, Nat.reduceLeDiff, reduceCtorEq, Nat.reduceAdd, Nat.reduceSub, noneS, listS, implies_true, forall_const, ne_eq]
    exact fpost_pure (σ0 := σ) (.inr rfl) (by rw [hnx]; exact Nat.le_refl _) hwf (by first | exact Sub.refl σ | exact (((Ext.refl _).new _).sub hwf)) rfl trivial (by repeat' (first | trivial | apply And.intro)) ⟨rfl, rfl⟩
  · have hle := (List.isPrefixOf_iff_prefix.1 h).length_le
    rw [len_list, len_list] at hle
    have h1 : (0 : Int) ≤ (p.size : Int) ∧ (p.size : Int) ≤ (s.size : Int) := by omega
    refine hgo_sound 60 ?_
    simp -implicitDefEqProofs (maxSteps := 1000000) only [simpS, ↓condJ_true, ↓condJ_false, ↓reduceIte, Nat.reduceEqDiff, Nat.reduceLT, Nat.reduceLeDiff, reduceCtorEq, Nat.reduceAdd, Nat.reduceSub, noneS, listS, implies_true, forall_const, ne_eq, h1.1, h1.2, Int.toNat_natCast]
    exact fpost_pure (σ0 := σ) (.inr rfl) (by rw [hnx]; exact Nat.le_refl _) hwf (by first | exact Sub.refl σ | exact (((Ext.refl _).new _).sub hwf)) rfl trivial (by repeat' (first | trivial | apply And.intro)) ⟨rfl, rfl⟩

theorem cutPrefix_calls (s p : ByteArray) (σ : St) : HCalls Tryz.prog 63 [.str s, .str p] σ (fun d σ' => d = .tuple (if p.data.toList.isPrefixOf s.data.toList then [.str (s.extract p.size s.size), .bool true] else [.str s, .bool false]) ∧ σ' = σ) := by
  refine hcalls_body (fn := Tryz.f63) rfl c63 (by simp [h63]) (by simp [h63, Tryz.f63]) ?_
  intro M hP hr hnt hnx hwf hlt
  simp only [h63, argEnv]
  have hnt' : M.nt = 11 := hnt
  refine hgo_sound 60 ?_
  simp -implicitDefEqProofs (maxSteps := 1000000) only [simpS, ↓condJ_true, ↓condJ_false, ↓reduceIte, Nat.reduceEqDiff, Nat.reduceLT, Nat.reduceLeDiff, reduceCtorEq, Nat.reduceAdd, Nat.reduceSub, noneS, listS, implies_true, forall_const, ne_eq]
  refine hx_call (f := .fn 76) rfl (by rw [hP]; exact hcallD_func (lcutPrefix_calls s p _)) ?_
  rintro _ σ2 ⟨rfl, h⟩
  subst σ2
  split <;> rename_i h
  · refine hgo_sound 60 ?_
    simp -implicitDefEqProofs (maxSteps := 1000000) only [simpS, ↓condJ_true, ↓condJ_false, ↓reduceIte, Nat.reduceEqDiff, Nat.reduceLT, Nat.reduceLeDiff, reduceCtorEq, Nat.reduceAdd, Nat.reduceSub, noneS, listS, implies_true, forall_const, ne_eq]
    exact fpost_pure (σ0 := σ) (.inr rfl) (by rw [hnx]; exact Nat.le_refl _) hwf (by first | exact Sub.refl σ | exact (((Ext.refl _).new _).sub hwf)) rfl trivial (by repeat' (first | trivial | apply And.intro)) ⟨rfl, rfl⟩
  · refine hgo_sound 60 ?_
    simp -implicitDefEqProofs (maxSteps := 1000000) only [simpS, ↓condJ_true, ↓condJ_false, ↓reduceIte, Nat.reduceEqDiff, Nat.reduceLT, Nat.reduceLeDiff, reduceCtorEq, Nat.reduceAdd, Nat.reduceSub, noneS, listS, implies_true, forall_const, ne_eq]
    exact fpost_pure (σ0 := σ) (.inr rfl) (by rw [hnx]; exact Nat.le_refl _) hwf (by first | exact Sub.refl σ | exact (((Ext.refl _).new _).sub hwf)) rfl trivial (by repeat' (first | trivial | apply And.intro)) ⟨rfl, rfl⟩

end Go.Hl
set_option linter.unusedSectionVars false
set_option linter.unusedVariables false
set_option linter.unusedSimpArgs false
set_option maxRecDepth 100000
namespace Go.Hl
open Go Go.Proofs Go.RowKit

theorem headD_at0 (s : ByteArray) : s.data.getD 0 0 = s.data.toList.headD 0 := by
  obtain ⟨⟨l⟩⟩ := s
  cases l <;> rfl

theorem printed_calls (s : ByteArray) (σ : St) : HCalls Tryz.prog 50 [.str s] σ (fun d σ' => d = .bool (prnd s.data.toList) ∧ σ' = σ) := by
  refine hcalls_body (fn := Tryz.f50) rfl c50 (by simp [h50]) (by simp [h50, Tryz.f50]) ?_
  intro M hP hr hnt hnx hwf hlt
  simp only [h50, argEnv]
  have hnt' : M.nt = 21 := hnt
  refine hgo_sound 60 ?_
  simp -implicitDefEqProofs (maxSteps := 1000000) only [simpS, ↓condJ_true, ↓condJ_false, ↓reduceIte, Nat.reduceEqDiff, Nat.reduceLT, Nat.reduceLeDiff, reduceCtorEq, Nat.reduceAdd, Nat.reduceSub, noneS, listS, implies_true, forall_const, ne_eq]
  refine hx_call (f := .fn 63) rfl (by rw [hP]; exact hcallD_func (cutPrefix_calls s ⟨#[83, 121, 115, 116, 101, 109, 46, 111, 117, 116, 46, 112, 114, 105, 110, 116, 108, 110]⟩ _)) ?_
  rintro _ σ2 ⟨rfl, h⟩
  subst σ2
  have h1 : (⟨#[83, 121, 115, 116, 101, 109, 46, 111, 117, 116, 46, 112, 114, 105, 110, 116, 108, 110]⟩ : ByteArray).data.toList = prnL := rfl
  have h2 : (⟨#[83, 121, 115, 116, 101, 109, 46, 111, 117, 116, 46, 112, 114, 105, 110, 116, 108, 110]⟩ : ByteArray).size = 18 := rfl
  rw [h1, h2]
  unfold prnd
  cases h : prnL.isPrefixOf s.data.toList
  · refine hgo_sound 60 ?_
    simp -implicitDefEqProofs (maxSteps := 1000000) only [simpS, ↓condJ_true, ↓condJ_false, ↓reduceIte, Nat.reduceEqDiff, Nat.reduceLT, Nat.reduceLeDiff, reduceCtorEq, Nat.reduceAdd, Nat.reduceSub, noneS, listS, implies_true, forall_const, ne_eq]
    exact fpost_pure (σ0 := σ) (.inr rfl) (by rw [hnx]; exact Nat.le_refl _) hwf (by first | exact Sub.refl σ | exact (((Ext.refl _).new _).sub hwf)) rfl trivial (by repeat' (first | trivial | apply And.intro)) ⟨rfl, rfl⟩
  · have hd := ex_drop s 18
    have hz : (s.extract 18 s.size).size = s.size - 18 := by rw [ByteArray.size_extract]; omega
    rw [if_pos rfl]
    by_cases he : s.extract 18 s.size = ⟨#[]⟩
    · have h3 : s.data.toList.drop 18 = [] := by rw [← hd, he]
      have h4 : decide (s.extract 18 s.size = ⟨#[]⟩) = true := decide_eq_true he
      rw [h3]
      refine hgo_sound 60 ?_
      simp -implicitDefEqProofs (maxSteps := 1000000) only [simpS, ↓condJ_true, ↓condJ_false, ↓reduceIte, Nat.reduceEqDiff, Nat.reduceLT, Nat.reduceLeDiff, reduceCtorEq, Nat.reduceAdd, Nat.reduceSub, noneS, listS, implies_true, forall_const, ne_eq, h4]
      exact fpost_pure (σ0 := σ) (.inr rfl) (by rw [hnx]; exact Nat.le_refl _) hwf (by first | exact Sub.refl σ | exact (((Ext.refl _).new _).sub hwf)) rfl trivial (by repeat' (first | trivial | apply And.intro)) ⟨rfl, rfl⟩
    · have h4 : decide (s.extract 18 s.size = ⟨#[]⟩) = false := decide_eq_false he
      cases hc : s.data.toList.drop 18 with
      | nil =>
        exfalso
        apply he
        apply ByteArray.ext
        apply Array.toList_inj.1
        rw [hd, hc]
      | cons c r =>
        have h5 : (s.extract 18 s.size).data.getD (Int.toNat 0) 0 = c := by
          have := headD_at0 (s.extract 18 s.size)
          rw [hd, hc] at this
          exact this
        have h6 : (0 : Int) < ((s.extract 18 s.size).size : Int) := by
          rw [hz]
          have : (s.data.toList.drop 18).length = r.length + 1 := by rw [hc]; rfl
          rw [List.length_drop, len_list] at this
          omega
        refine hgo_sound 60 ?_
        simp -implicitDefEqProofs (maxSteps := 1000000) only [simpS, ↓condJ_true, ↓condJ_false, ↓reduceIte, Nat.reduceEqDiff, Nat.reduceLT, Nat.reduceLeDiff, reduceCtorEq, Nat.reduceAdd, Nat.reduceSub, noneS, listS, implies_true, forall_const, ne_eq, h4, h5, h6, Int.le_refl]
        refine hx_call (f := .fn 51) rfl (by rw [hP]; exact hcallD_func (linside_calls c _)) ?_
        rintro _ σ2 ⟨rfl, h⟩
        subst σ2
        refine hgo_sound 60 ?_
        simp -implicitDefEqProofs (maxSteps := 1000000) only [simpS, ↓condJ_true, ↓condJ_false, ↓reduceIte, Nat.reduceEqDiff, Nat.reduceLT, Nat.reduceLeDiff, reduceCtorEq, Nat.reduceAdd, Nat.reduceSub, noneS, listS, implies_true, forall_const, ne_eq]
        exact fpost_pure (σ0 := σ) (.inr rfl) (by rw [hnx]; exact Nat.le_refl _) hwf (by first | exact Sub.refl σ | exact (((Ext.refl _).new _).sub hwf)) rfl trivial (by repeat' (first | trivial | apply And.intro)) ⟨rfl, rfl⟩

theorem word_n (s : ByteArray) : runAt insP s 0 = (runTo insP s.data.toList : Int) := runAt_zero insP s

theorem lword_calls (s : ByteArray) (hs : s.size ≤ 1073741824) (σ : St) (hg : GM σ) : HCalls Tryz.prog 52 [.str s] σ (fun d σ' => d = .tuple [.int .i64 (wordK (bsL (s.data.toList.take (runTo insP s.data.toList))) : Nat), .int .i64 (runTo insP s.data.toList : Nat)] ∧ σ' = σ) := by
  refine hcalls_body (fn := Tryz.f52) rfl c52 (by simp [h52]) (by simp [h52, Tryz.f52]) ?_
  intro M hP hr hnt hnx hwf hlt
  simp only [h52, argEnv]
  have hnt' : M.nt = 31 := hnt
  have hle := runTo_le insP s.data.toList
  rw [len_list] at hle
  have h0 : (0 : Int) ≤ (runTo insP s.data.toList : Int) ∧ (runTo insP s.data.toList : Int) ≤ (s.size : Int) := by omega
  refine hgo_sound 60 ?_
  simp -implicitDefEqProofs (maxSteps := 1000000) only [simpS, ↓condJ_true, ↓condJ_false, ↓reduceIte, Nat.reduceEqDiff, Nat.reduceLT, Nat.reduceLeDiff, reduceCtorEq, Nat.reduceAdd, Nat.reduceSub, noneS, listS, implies_true, forall_const, ne_eq]
  refine hx_call (f := .fn 47) rfl (by rw [hP]; exact hcallD_func (run_calls s (by omega) 0 51 insP (fun b σ => linside_calls b σ) _)) ?_
  rintro _ σ2 ⟨rfl, h⟩
  subst σ2
  rw [word_n]
  refine hgo_sound 60 ?_
  simp -implicitDefEqProofs (maxSteps := 1000000) only [simpS, ↓condJ_true, ↓condJ_false, ↓reduceIte, Nat.reduceEqDiff, Nat.reduceLT, Nat.reduceLeDiff, reduceCtorEq, Nat.reduceAdd, Nat.reduceSub, noneS, listS, implies_true, forall_const, ne_eq, h0.1, h0.2, Int.toNat_natCast]
  rw [ex_take]
  have hw : (bsL (s.data.toList.take (runTo insP s.data.toList))).size ≤ 1073741824 := by
    rw [← ex_take, ByteArray.size_extract]; omega
  generalize hW : bsL (s.data.toList.take (runTo insP s.data.toList)) = W at *
  refine hx_call (f := .fn 66) rfl (by rw [hP]; exact hcallD_func (number_calls W (by omega) _ hg.gk)) ?_
  rintro _ σ2 ⟨rfl, h⟩
  subst σ2
  refine hgo_sound 60 ?_
  simp -implicitDefEqProofs (maxSteps := 1000000) only [simpS, ↓condJ_true, ↓condJ_false, ↓reduceIte, Nat.reduceEqDiff, Nat.reduceLT, Nat.reduceLeDiff, reduceCtorEq, Nat.reduceAdd, Nat.reduceSub, noneS, listS, implies_true, forall_const, ne_eq]
  refine hx_call (f := .fn 67) rfl (by rw [hP]; exact hcallD_func (keyword_calls W _ hg.gk)) ?_
  rintro _ σ2 ⟨rfl, h⟩
  subst σ2
  unfold wordK
  cases hk : isKw W
  · refine hgo_sound 60 ?_
    simp -implicitDefEqProofs (maxSteps := 1000000) only [simpS, ↓condJ_true, ↓condJ_false, ↓reduceIte, Nat.reduceEqDiff, Nat.reduceLT, Nat.reduceLeDiff, reduceCtorEq, Nat.reduceAdd, Nat.reduceSub, noneS, listS, implies_true, forall_const, ne_eq]
    refine hx_call (f := .fn 68) rfl (by rw [hP]; exact hcallD_func (word_calls W (by omega) _)) ?_
    rintro _ σ2 ⟨rfl, h⟩
    subst σ2
    cases hwd : isWord W
    · by_cases hn : numE W = 0
      · rw [hn, erD_zero]
        refine hgo_sound 60 ?_
        simp -implicitDefEqProofs (maxSteps := 1000000) only [simpS, ↓condJ_true, ↓condJ_false, ↓reduceIte, Nat.reduceEqDiff, Nat.reduceLT, Nat.reduceLeDiff, reduceCtorEq, Nat.reduceAdd, Nat.reduceSub, noneS, listS, implies_true, forall_const, ne_eq]
        exact fpost_pure (σ0 := σ) (.inr rfl) (by rw [hnx]; exact Nat.le_refl _) hwf (by first | exact Sub.refl σ | exact (((Ext.refl _).new _).sub hwf)) rfl trivial (by repeat' (first | trivial | apply And.intro)) ⟨rfl, rfl⟩
      · rw [erD_pos hn]
        refine hgo_sound 60 ?_
        simp -implicitDefEqProofs (maxSteps := 1000000) only [simpS, ↓condJ_true, ↓condJ_false, ↓reduceIte, Nat.reduceEqDiff, Nat.reduceLT, Nat.reduceLeDiff, reduceCtorEq, Nat.reduceAdd, Nat.reduceSub, noneS, listS, implies_true, forall_const, ne_eq]
        exact fpost_pure (σ0 := σ) (.inr rfl) (by rw [hnx]; exact Nat.le_refl _) hwf (by first | exact Sub.refl σ | exact (((Ext.refl _).new _).sub hwf)) rfl trivial (by repeat' (first | trivial | apply And.intro)) ⟨by simp [tupD, look, hn], rfl⟩
    · refine hgo_sound 60 ?_
      simp -implicitDefEqProofs (maxSteps := 1000000) only [simpS, ↓condJ_true, ↓condJ_false, ↓reduceIte, Nat.reduceEqDiff, Nat.reduceLT, Nat.reduceLeDiff, reduceCtorEq, Nat.reduceAdd, Nat.reduceSub, noneS, listS, implies_true, forall_const, ne_eq]
      exact fpost_pure (σ0 := σ) (.inr rfl) (by rw [hnx]; exact Nat.le_refl _) hwf (by first | exact Sub.refl σ | exact (((Ext.refl _).new _).sub hwf)) rfl trivial (by repeat' (first | trivial | apply And.intro)) ⟨rfl, rfl⟩
  · refine hgo_sound 60 ?_
    simp -implicitDefEqProofs (maxSteps := 1000000) only [simpS, ↓condJ_true, ↓condJ_false, ↓reduceIte, Nat.reduceEqDiff, Nat.reduceLT, Nat.reduceLeDiff, reduceCtorEq, Nat.reduceAdd, Nat.reduceSub, noneS, listS, implies_true, forall_const, ne_eq]
    exact fpost_pure (σ0 := σ) (.inr rfl) (by rw [hnx]; exact Nat.le_refl _) hwf (by first | exact Sub.refl σ | exact (((Ext.refl _).new _).sub hwf)) rfl trivial (by repeat' (first | trivial | apply And.intro)) ⟨rfl, rfl⟩

theorem next_calls (s : ByteArray) (h0 : 0 < s.size) (hs : s.size ≤ 1073741824) (σ : St) (hg : GM σ) : HCalls Tryz.prog 44 [.str s] σ (fun d σ' => d = .tuple [.int .i64 ((lexN s.data.toList).1 : Nat), .int .i64 ((lexN s.data.toList).2 : Nat)] ∧ σ' = σ) := by
  refine hcalls_body (fn := Tryz.f44) rfl c44 (by simp [h44]) (by simp [h44, Tryz.f44]) ?_
  intro M hP hr hnt hnx hwf hlt
  simp only [h44, argEnv]
  have hnt' : M.nt = 38 := hnt
  have hh := headD_at0 s
  have h01 : (0 : Int) < (s.size : Int) := by omega
  have hz : s.data.getD (Int.toNat 0) 0 = s.data.toList.headD 0 := hh
  generalize hc : s.data.toList.headD 0 = c at *
  unfold lexN
  rw [hc]
  refine hgo_sound 60 ?_
  simp -implicitDefEqProofs (maxSteps := 1000000) only [simpS, ↓condJ_true, ↓condJ_false, ↓reduceIte, Nat.reduceEqDiff, Nat.reduceLT, Nat.reduceLeDiff, reduceCtorEq, Nat.reduceAdd, Nat.reduceSub, noneS, listS, implies_true, forall_const, ne_eq, h01, hz, Int.le_refl]
  refine hx_call (f := .fn 46) rfl (by rw [hP]; exact hcallD_func (blank_calls c _)) ?_
  rintro _ σ2 ⟨rfl, h⟩
  subst σ2
  cases hb : isBlk c
  · refine hgo_sound 60 ?_
    simp -implicitDefEqProofs (maxSteps := 1000000) only [simpS, ↓condJ_true, ↓condJ_false, ↓reduceIte, Nat.reduceEqDiff, Nat.reduceLT, Nat.reduceLeDiff, reduceCtorEq, Nat.reduceAdd, Nat.reduceSub, noneS, listS, implies_true, forall_const, ne_eq]
    refine hx_call (f := .fn 48) rfl (by rw [hP]; exact hcallD_func (hasPrefix_calls s ⟨#[47, 47]⟩ _)) ?_
    rintro _ σ2 ⟨rfl, h⟩
    subst σ2
    have e1 : (⟨#[47, 47]⟩ : ByteArray).data.toList = [47, 47] := rfl
    rw [e1]
    cases h1 : ([47, 47] : List UInt8).isPrefixOf s.data.toList
    · refine hgo_sound 60 ?_
      simp -implicitDefEqProofs (maxSteps := 1000000) only [simpS, ↓condJ_true, ↓condJ_false, ↓reduceIte, Nat.reduceEqDiff, Nat.reduceLT, Nat.reduceLeDiff, reduceCtorEq, Nat.reduceAdd, Nat.reduceSub, noneS, listS, implies_true, forall_const, ne_eq]
      refine hx_call (f := .fn 48) rfl (by rw [hP]; exact hcallD_func (hasPrefix_calls s ⟨#[47, 42]⟩ _)) ?_
      rintro _ σ2 ⟨rfl, h⟩
      subst σ2
      have e2 : (⟨#[47, 42]⟩ : ByteArray).data.toList = [47, 42] := rfl
      rw [e2]
      cases h2 : ([47, 42] : List UInt8).isPrefixOf s.data.toList
      · refine hgo_sound 60 ?_
        simp -implicitDefEqProofs (maxSteps := 1000000) only [simpS, ↓condJ_true, ↓condJ_false, ↓reduceIte, Nat.reduceEqDiff, Nat.reduceLT, Nat.reduceLeDiff, reduceCtorEq, Nat.reduceAdd, Nat.reduceSub, noneS, listS, implies_true, forall_const, ne_eq]
        refine hx_call (f := .fn 50) rfl (by rw [hP]; exact hcallD_func (printed_calls s _)) ?_
        rintro _ σ2 ⟨rfl, h⟩
        subst σ2
        cases h3 : prnd s.data.toList
        · refine hgo_sound 60 ?_
          simp -implicitDefEqProofs (maxSteps := 1000000) only [simpS, ↓condJ_true, ↓condJ_false, ↓reduceIte, Nat.reduceEqDiff, Nat.reduceLT, Nat.reduceLeDiff, reduceCtorEq, Nat.reduceAdd, Nat.reduceSub, noneS, listS, implies_true, forall_const, ne_eq]
          refine hx_call (f := .fn 51) rfl (by rw [hP]; exact hcallD_func (linside_calls c _)) ?_
          rintro _ σ2 ⟨rfl, h⟩
          subst σ2
          cases h4 : insP c
          · refine hgo_sound 60 ?_
            simp -implicitDefEqProofs (maxSteps := 1000000) only [simpS, ↓condJ_true, ↓condJ_false, ↓reduceIte, Nat.reduceEqDiff, Nat.reduceLT, Nat.reduceLeDiff, reduceCtorEq, Nat.reduceAdd, Nat.reduceSub, noneS, listS, implies_true, forall_const, ne_eq]
            refine hx_call (f := .fn 48) rfl (by rw [hP]; exact hcallD_func (hasPrefix_calls s ⟨#[38, 38]⟩ _)) ?_
            rintro _ σ2 ⟨rfl, h⟩
            subst σ2
            have e5 : (⟨#[38, 38]⟩ : ByteArray).data.toList = [38, 38] := rfl
            rw [e5]
            cases h5 : ([38, 38] : List UInt8).isPrefixOf s.data.toList
            · refine hgo_sound 60 ?_
              simp -implicitDefEqProofs (maxSteps := 1000000) only [simpS, ↓condJ_true, ↓condJ_false, ↓reduceIte, Nat.reduceEqDiff, Nat.reduceLT, Nat.reduceLeDiff, reduceCtorEq, Nat.reduceAdd, Nat.reduceSub, noneS, listS, implies_true, forall_const, ne_eq]
              refine hx_call (f := .fn 53) rfl (by rw [hP]; exact hcallD_func (indexByte_calls ⟨#[123, 125, 40, 41, 91, 93, 59, 44, 46, 61, 60, 43, 45, 42, 33]⟩ c _)) ?_
              rintro _ σ2 ⟨rfl, h⟩
              subst σ2
              have e6 : (⟨#[123, 125, 40, 41, 91, 93, 59, 44, 46, 61, 60, 43, 45, 42, 33]⟩ : ByteArray).data.toList = sgnL := rfl
              rw [e6]
              cases h6 : sgl c
              · unfold sgl at h6
                refine hgo_sound 60 ?_
                simp -implicitDefEqProofs (maxSteps := 1000000) only [simpS, ↓condJ_true, ↓condJ_false, ↓reduceIte, Nat.reduceEqDiff, Nat.reduceLT, Nat.reduceLeDiff, reduceCtorEq, Nat.reduceAdd, Nat.reduceSub, noneS, listS, implies_true, forall_const, ne_eq, h6]
                exact fpost_pure (σ0 := σ) (.inr rfl) (by rw [hnx]; exact Nat.le_refl _) hwf (by first | exact Sub.refl σ | exact (((Ext.refl _).new _).sub hwf)) rfl trivial (by repeat' (first | trivial | apply And.intro)) ⟨rfl, rfl⟩
              · unfold sgl at h6
                refine hgo_sound 60 ?_
                simp -implicitDefEqProofs (maxSteps := 1000000) only [simpS, ↓condJ_true, ↓condJ_false, ↓reduceIte, Nat.reduceEqDiff, Nat.reduceLT, Nat.reduceLeDiff, reduceCtorEq, Nat.reduceAdd, Nat.reduceSub, noneS, listS, implies_true, forall_const, ne_eq, h6]
                exact fpost_pure (σ0 := σ) (.inr rfl) (by rw [hnx]; exact Nat.le_refl _) hwf (by first | exact Sub.refl σ | exact (((Ext.refl _).new _).sub hwf)) rfl trivial (by repeat' (first | trivial | apply And.intro)) ⟨rfl, rfl⟩
            · refine hgo_sound 60 ?_
              simp -implicitDefEqProofs (maxSteps := 1000000) only [simpS, ↓condJ_true, ↓condJ_false, ↓reduceIte, Nat.reduceEqDiff, Nat.reduceLT, Nat.reduceLeDiff, reduceCtorEq, Nat.reduceAdd, Nat.reduceSub, noneS, listS, implies_true, forall_const, ne_eq]
              exact fpost_pure (σ0 := σ) (.inr rfl) (by rw [hnx]; exact Nat.le_refl _) hwf (by first | exact Sub.refl σ | exact (((Ext.refl _).new _).sub hwf)) rfl trivial (by repeat' (first | trivial | apply And.intro)) ⟨rfl, rfl⟩
          · refine hgo_sound 60 ?_
            simp -implicitDefEqProofs (maxSteps := 1000000) only [simpS, ↓condJ_true, ↓condJ_false, ↓reduceIte, Nat.reduceEqDiff, Nat.reduceLT, Nat.reduceLeDiff, reduceCtorEq, Nat.reduceAdd, Nat.reduceSub, noneS, listS, implies_true, forall_const, ne_eq]
            refine hx_call (f := .fn 52) rfl (by rw [hP]; exact hcallD_func (lword_calls s hs _ hg)) ?_
            rintro _ σ2 ⟨rfl, h⟩
            subst σ2
            refine hgo_sound 60 ?_
            simp -implicitDefEqProofs (maxSteps := 1000000) only [simpS, ↓condJ_true, ↓condJ_false, ↓reduceIte, Nat.reduceEqDiff, Nat.reduceLT, Nat.reduceLeDiff, reduceCtorEq, Nat.reduceAdd, Nat.reduceSub, noneS, listS, implies_true, forall_const, ne_eq]
            exact fpost_pure (σ0 := σ) (.inr rfl) (by rw [hnx]; exact Nat.le_refl _) hwf (by first | exact Sub.refl σ | exact (((Ext.refl _).new _).sub hwf)) rfl trivial (by repeat' (first | trivial | apply And.intro)) ⟨rfl, rfl⟩
        · refine hgo_sound 60 ?_
          simp -implicitDefEqProofs (maxSteps := 1000000) only [simpS, ↓condJ_true, ↓condJ_false, ↓reduceIte, Nat.reduceEqDiff, Nat.reduceLT, Nat.reduceLeDiff, reduceCtorEq, Nat.reduceAdd, Nat.reduceSub, noneS, listS, implies_true, forall_const, ne_eq]
          exact fpost_pure (σ0 := σ) (.inr rfl) (by rw [hnx]; exact Nat.le_refl _) hwf (by first | exact Sub.refl σ | exact (((Ext.refl _).new _).sub hwf)) rfl trivial (by repeat' (first | trivial | apply And.intro)) ⟨rfl, rfl⟩
      · refine hgo_sound 60 ?_
        simp -implicitDefEqProofs (maxSteps := 1000000) only [simpS, ↓condJ_true, ↓condJ_false, ↓reduceIte, Nat.reduceEqDiff, Nat.reduceLT, Nat.reduceLeDiff, reduceCtorEq, Nat.reduceAdd, Nat.reduceSub, noneS, listS, implies_true, forall_const, ne_eq]
        refine hx_call (f := .fn 49) rfl (by rw [hP]; exact hcallD_func (note_calls s hs (by rw [h1, h2]; rfl) _ hg)) ?_
        rintro _ σ2 ⟨rfl, h⟩
        subst σ2
        rw [h1]
        cases hx : ix2 (s.data.toList.drop 2) with
        | none =>
          refine hgo_sound 60 ?_
          simp -implicitDefEqProofs (maxSteps := 1000000) only [simpS, ↓condJ_true, ↓condJ_false, ↓reduceIte, Nat.reduceEqDiff, Nat.reduceLT, Nat.reduceLeDiff, reduceCtorEq, Nat.reduceAdd, Nat.reduceSub, noneS, listS, implies_true, forall_const, ne_eq]
          exact fpost_pure (σ0 := σ) (.inr rfl) (by rw [hnx]; exact Nat.le_refl _) hwf (by first | exact Sub.refl σ | exact (((Ext.refl _).new _).sub hwf)) rfl trivial (by repeat' (first | trivial | apply And.intro)) ⟨by rw [len_list]; rfl, rfl⟩
        | some i =>
          refine hgo_sound 60 ?_
          simp -implicitDefEqProofs (maxSteps := 1000000) only [simpS, ↓condJ_true, ↓condJ_false, ↓reduceIte, Nat.reduceEqDiff, Nat.reduceLT, Nat.reduceLeDiff, reduceCtorEq, Nat.reduceAdd, Nat.reduceSub, noneS, listS, implies_true, forall_const, ne_eq]
          exact fpost_pure (σ0 := σ) (.inr rfl) (by rw [hnx]; exact Nat.le_refl _) hwf (by first | exact Sub.refl σ | exact (((Ext.refl _).new _).sub hwf)) rfl trivial (by repeat' (first | trivial | apply And.intro)) ⟨rfl, rfl⟩
    · refine hgo_sound 60 ?_
      simp -implicitDefEqProofs (maxSteps := 1000000) only [simpS, ↓condJ_true, ↓condJ_false, ↓reduceIte, Nat.reduceEqDiff, Nat.reduceLT, Nat.reduceLeDiff, reduceCtorEq, Nat.reduceAdd, Nat.reduceSub, noneS, listS, implies_true, forall_const, ne_eq]
      refine hx_call (f := .fn 49) rfl (by rw [hP]; exact hcallD_func (note_calls s hs (by rw [h1]; rfl) _ hg)) ?_
      rintro _ σ2 ⟨rfl, h⟩
      subst σ2
      rw [h1]
      refine hgo_sound 60 ?_
      simp -implicitDefEqProofs (maxSteps := 1000000) only [simpS, ↓condJ_true, ↓condJ_false, ↓reduceIte, Nat.reduceEqDiff, Nat.reduceLT, Nat.reduceLeDiff, reduceCtorEq, Nat.reduceAdd, Nat.reduceSub, noneS, listS, implies_true, forall_const, ne_eq]
      exact fpost_pure (σ0 := σ) (.inr rfl) (by rw [hnx]; exact Nat.le_refl _) hwf (by first | exact Sub.refl σ | exact (((Ext.refl _).new _).sub hwf)) rfl trivial (by repeat' (first | trivial | apply And.intro)) ⟨rfl, rfl⟩
  · refine hgo_sound 60 ?_
    simp -implicitDefEqProofs (maxSteps := 1000000) only [simpS, ↓condJ_true, ↓condJ_false, ↓reduceIte, Nat.reduceEqDiff, Nat.reduceLT, Nat.reduceLeDiff, reduceCtorEq, Nat.reduceAdd, Nat.reduceSub, noneS, listS, implies_true, forall_const, ne_eq]
    refine hx_call (f := .fn 47) rfl (by rw [hP]; exact hcallD_func (run_calls s (by omega) 0 46 isBlk (fun b σ => blank_calls b σ) _)) ?_
    rintro _ σ2 ⟨rfl, h⟩
    subst σ2
    rw [runAt_zero]
    refine hgo_sound 60 ?_
    simp -implicitDefEqProofs (maxSteps := 1000000) only [simpS, ↓condJ_true, ↓condJ_false, ↓reduceIte, Nat.reduceEqDiff, Nat.reduceLT, Nat.reduceLeDiff, reduceCtorEq, Nat.reduceAdd, Nat.reduceSub, noneS, listS, implies_true, forall_const, ne_eq]
    exact fpost_pure (σ0 := σ) (.inr rfl) (by rw [hnx]; exact Nat.le_refl _) hwf (by first | exact Sub.refl σ | exact (((Ext.refl _).new _).sub hwf)) rfl trivial (by repeat' (first | trivial | apply And.intro)) ⟨rfl, rfl⟩

end Go.Hl
set_option linter.unusedSectionVars false
set_option linter.unusedVariables false
set_option linter.unusedSimpArgs false
set_option maxRecDepth 100000

namespace Go.Hl
open Go Go.Proofs Go.RowKit

structure Tk3 where
  k : Nat
  f : Nat
  t : Nat

abbrev encK3 (x : Tk3) : List D := [.int .i64 (x.k : Int), .int .i64 (x.f : Int), .int .i64 (x.t : Int)]
def encTk (l : List Tk3) : List (List D) := l.map encK3
theorem encTk_length (l : List Tk3) : (encTk l).length = l.length := by simp [encTk]
theorem encTk_lt (n : Nat) : ∀ l : List Tk3, ltX n (encTk l)
  | [] => trivial
  | s :: l => ⟨⟨trivial, trivial, trivial, trivial⟩, encTk_lt n l⟩
theorem encTk_snoc (l : List Tk3) (x : Tk3) : encTk l ++ [encK3 x] = encTk (l ++ [x]) := by simp [encTk]
theorem encTk_get (l : List Tk3) (j : Nat) (h : j < l.length) : (encTk l).getD j [] = encK3 l[j] := by simp [encTk, List.getD, h]
theorem encTk_slt (n : Nat) (l : List Tk3) : (D.slice .no 3 (encTk l)).lt n := ⟨trivial, encTk_lt n l⟩

def toksF : Nat → List UInt8 → Nat → List Tk3
  | 0, _, _ => []
  | n + 1, l, a => if l = [] then [] else ⟨(lexN l).1, a, a + (lexN l).2⟩ :: toksF n (l.drop (lexN l).2) (a + (lexN l).2)
def toks (l : List UInt8) (a : Nat) : List Tk3 := toksF l.length l a

theorem toksF_eq : ∀ (n m : Nat) (l : List UInt8) (a : Nat), l.length ≤ n → l.length ≤ m → toksF n l a = toksF m l a
  | 0, m, l, a, h, _ => by
    have : l = [] := List.length_eq_zero_iff.1 (by omega)
    subst this
    cases m <;> simp [toksF]
  | n + 1, 0, l, a, _, h => by
    have : l = [] := List.length_eq_zero_iff.1 (by omega)
    subst this
    simp [toksF]
  | n + 1, m + 1, l, a, h1, h2 => by
    simp only [toksF]
    by_cases hl : l = []
    · simp [hl]
    · rw [if_neg hl, if_neg hl]
      have := lexN_len l hl
      rw [toksF_eq n m _ _ (by rw [List.length_drop]; omega) (by rw [List.length_drop]; omega)]
theorem toks_nil (a : Nat) : toks [] a = [] := rfl
theorem toks_cons (l : List UInt8) (a : Nat) (h : l ≠ []) : toks l a = ⟨(lexN l).1, a, a + (lexN l).2⟩ :: toks (l.drop (lexN l).2) (a + (lexN l).2) := by
  have h1 := lexN_len l h
  unfold toks
  obtain ⟨n, hn⟩ : ∃ n, l.length = n + 1 := ⟨l.length - 1, by omega⟩
  rw [hn]
  simp only [toksF]
  rw [if_neg h, toksF_eq n _ _ _ (by rw [List.length_drop]; omega) (Nat.le_refl _)]
theorem toks_length : ∀ (n : Nat) (l : List UInt8) (a : Nat), l.length ≤ n → (toks l a).length ≤ l.length
  | 0, l, a, h => by
    have : l = [] := List.length_eq_zero_iff.1 (by omega)
    subst this
    simp [toks_nil]
  | n + 1, l, a, h => by
    by_cases hl : l = []
    · subst hl; simp [toks_nil]
    · have h1 := lexN_len l hl
      have := toks_length n (l.drop (lexN l).2) (a + (lexN l).2) (by rw [List.length_drop]; omega)
      rw [toks_cons l a hl, List.length_cons]
      rw [List.length_drop] at this
      omega

theorem all_calls (s : ByteArray) (σ : St) : HCalls Tryz.prog 38 [.str s] σ (fun d σ' => d = .func 43 [.eptr [.str s] 0] ∧ σ' = σ) := by
  refine hcalls_body (fn := Tryz.f38) rfl c38 (by simp [h38]) (by simp [h38, Tryz.f38]) ?_
  intro M hP hr hnt hnx hwf hlt
  simp only [h38, argEnv]
  have hnt' : M.nt = 4 := hnt
  refine hgo_sound 60 ?_
  simp -implicitDefEqProofs (maxSteps := 1000000) only [simpS, ↓condJ_true, ↓condJ_false, ↓reduceIte, Nat.reduceEqDiff, Nat.reduceLT, Nat.reduceLeDiff, reduceCtorEq, Nat.reduceAdd, Nat.reduceSub, noneS, listS, implies_true, forall_const, ne_eq]
  refine fpost_frz [(σ.next, [.str s])] false (.inr rfl) (by omega) hwf ((Ext.refl σ).new _ |>.sub hwf) rfl trivial (by simp [St.obj_new]) (by simp [tupD, frzD, frzL, lookF, look]) ?_ ⟨rfl, rfl⟩
  simp [D.lt, ltL]

structure AlS (C : Type) where
  a : Nat
  c : C

theorem drop_size (s : ByteArray) (a : Nat) : (s.extract a s.size).size = s.size - a := by rw [ByteArray.size_extract]; omega
theorem drop_ne (s : ByteArray) (a : Nat) (h : a < s.size) : s.data.toList.drop a ≠ [] := by
  intro e
  have := List.drop_eq_nil_iff.1 e
  rw [len_list] at this
  omega

theorem all_iter (s : ByteArray) (hs : s.size ≤ 1073741824) (gl : Nat → Option (List D)) (hg : ∀ σ : St, σ.glob = gl → GM σ) :
    IterAt Tryz.prog 43 (fun y => [y, .eptr [.str s] 0]) (fun x => [D.agg (encK3 x)]) (toks s.data.toList 0) gl := by
  intro tk c y hgl hok hy
  refine hcalls_body (fn := Tryz.f43) rfl c43 (by simp [h43]) (by simp [h43, Tryz.f43]) ?_
  intro M hP hr hnt hnx hwf hlt
  simp only [h43, argEnv]
  refine hgo_sound 60 ?_
  simp -implicitDefEqProofs (maxSteps := 1000000) only [simpS, ↓condJ_true, ↓condJ_false, ↓reduceIte, Nat.reduceEqDiff, Nat.reduceLT, Nat.reduceLeDiff, reduceCtorEq, Nat.reduceAdd, Nat.reduceSub, noneS, listS, implies_true, forall_const, ne_eq]
  refine hx_know_code fun hw hl hn => ?_
  refine hx_loop (S := AlS tk.C) (fun t => [(0, y), (1, .eptr [.str s] 0), (3, .int .i64 t.a)]) (fun t => tk.T t.c)
    (fun t => t.a ≤ s.size ∧ tk.oks t.c (toks (s.data.toList.drop t.a) t.a) ∧ tk.run c (toks s.data.toList 0) = tk.run t.c (toks (s.data.toList.drop t.a) t.a))
    (fun t => s.size - t.a) ⟨0, c⟩ ⟨Nat.zero_le _, hok, rfl⟩ (fun _ _ h => by rw [hr] at h; cases h) ?_ ?_
  · exact Drop.all hw hn ⟨⟨rfl, hl 0⟩, ⟨rfl, hl 1⟩, ⟨rfl, trivial⟩, trivial⟩
  rintro ⟨a, c1⟩ ⟨h1, h6, h7⟩
  simp only at h1 h6 h7 ⊢
  refine hx_know_code fun hw1 hl1 hn1 => ?_
  by_cases ha : a < s.size
  · have hd : decide ((a : Int) < (s.size : Int)) = true := decide_eq_true (by omega)
    have ha2 : (0 : Int) ≤ (a : Int) ∧ (a : Int) ≤ (s.size : Int) := by omega
    have hne := drop_ne s a ha
    have hln := lexN_len _ hne
    rw [List.length_drop, len_list] at hln
    rw [toks_cons _ _ hne] at h6 h7
    have hz := drop_size s a
    have hc := next_calls (s.extract a s.size) (by omega) (by omega) (tk.T c1) (hg _ ((tk.glob c1 c).trans hgl))
    rw [ex_drop] at hc
    rw [List.drop_drop] at h6 h7
    generalize hk : lexN (s.data.toList.drop a) = kn at *
    obtain ⟨k, n⟩ := kn
    simp only at hc h6 h7 hln
    have hw3 : IntKind.i64.wrap ((a : Int) + (n : Int)) = ((a + n : Nat) : Int) := by rw [IntWalk.i64_in _ (by omega)]; rfl
    refine hgo_sound 60 ?_
    simp -implicitDefEqProofs (maxSteps := 1000000) only [simpS, ↓condJ_true, ↓condJ_false, ↓reduceIte, Nat.reduceEqDiff, Nat.reduceLT, Nat.reduceLeDiff, reduceCtorEq, Nat.reduceAdd, Nat.reduceSub, noneS, listS, implies_true, forall_const, ne_eq, hd, ha2.1, ha2.2, Int.toNat_natCast]
    refine hx_call (f := .fn 44) rfl (by rw [hP]; exact hcallD_func (hc)) ?_
    rintro _ σ2 ⟨rfl, h⟩
    subst σ2
    refine hgo_sound 60 ?_
    simp -implicitDefEqProofs (maxSteps := 1000000) only [simpS, ↓condJ_true, ↓condJ_false, ↓reduceIte, Nat.reduceEqDiff, Nat.reduceLT, Nat.reduceLeDiff, reduceCtorEq, Nat.reduceAdd, Nat.reduceSub, noneS, listS, implies_true, forall_const, ne_eq, hw3]
    refine hx_call rfl (by rw [hP]; exact hy.call c1 ⟨k, a, a + n⟩ (tk.T c1) (tk.low c1) h6.1) ?_
    rintro d σ2 ⟨rfl, rfl⟩
    rw [tk.mixT]
    refine hx_know_ops fun hw2 hl2 hn2 => ?_
    cases hb : (tk.step c1 ⟨k, a, a + n⟩).2
    · refine hgo_sound 60 ?_
      simp -implicitDefEqProofs (maxSteps := 1000000) only [simpS, ↓condJ_true, ↓condJ_false, ↓reduceIte, Nat.reduceEqDiff, Nat.reduceLT, Nat.reduceLeDiff, reduceCtorEq, Nat.reduceAdd, Nat.reduceSub, noneS, listS, implies_true, forall_const, ne_eq]
      rw [h7, Tk.run_false hb]
      exact fpost_pure (.inr rfl) hn2 hw2 (Sub.refl _) rfl trivial trivial rfl
    · refine hgo_sound 60 ?_
      simp -implicitDefEqProofs (maxSteps := 1000000) only [simpS, ↓condJ_true, ↓condJ_false, ↓reduceIte, Nat.reduceEqDiff, Nat.reduceLT, Nat.reduceLeDiff, reduceCtorEq, Nat.reduceAdd, Nat.reduceSub, noneS, listS, implies_true, forall_const, ne_eq, hw3]
      intro _ _ _
      refine ⟨⟨a + n, _⟩, ⟨by simp only; omega, h6.2 hb, by rw [h7, Tk.run_true hb]⟩, by simp only; omega, ?_⟩
      exact Drop.all hw2 hn2 ⟨⟨rfl, hl2 0⟩, ⟨rfl, hl2 1⟩, ⟨rfl, trivial⟩, trivial⟩
  · have hd : decide ((a : Int) < (s.size : Int)) = false := decide_eq_false (by omega)
    have haa : s.data.toList.drop a = [] := List.drop_eq_nil_of_le (by rw [len_list]; omega)
    rw [haa, toks_nil] at h7
    refine hgo_sound 60 ?_
    simp -implicitDefEqProofs (maxSteps := 1000000) only [simpS, ↓condJ_true, ↓condJ_false, ↓reduceIte, Nat.reduceEqDiff, Nat.reduceLT, Nat.reduceLeDiff, reduceCtorEq, Nat.reduceAdd, Nat.reduceSub, noneS, listS, implies_true, forall_const, ne_eq, hd]
    rw [h7]
    exact fpost_pure (.inl rfl) hn1 hw1 (Sub.refl _) rfl trivial trivial rfl

end Go.Hl
