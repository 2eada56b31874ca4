/-
  Layer 6: the law LexNames.
-/
import Derived.Test.YteffbibilpbhjaaDoorLxN
set_option linter.unusedSectionVars false
set_option linter.unusedVariables false
set_option linter.unusedSimpArgs false
set_option maxRecDepth 100000
namespace Go.Hl
open Go Go.Proofs Go.RowKit

/-- The names' numbers, of the first n tokens. -/
def nmIx (W : List Tk3) : Nat → List Nat
  | 0 => []
  | n + 1 => nmIx W n ++ (if (W.getD n ⟨0, 0, 0⟩).k = 4 then [n] else [])
theorem nmIx_len (W : List Tk3) : ∀ n, (nmIx W n).length ≤ n
  | 0 => Nat.le_refl _
  | n + 1 => by
    have := nmIx_len W n
    simp only [nmIx, List.length_append]
    split <;> simp only [List.length_cons, List.length_nil] <;> omega
theorem nmIx_mem (W : List Tk3) : ∀ n, n ≤ W.length → ∀ x ∈ nmIx W n, ∃ h : x < W.length, (W[x]).k = 4
  | 0, _, x, h => by cases h
  | n + 1, hn, x, h => by
    simp only [nmIx, List.mem_append] at h
    rcases h with h | h
    · exact nmIx_mem W n (by omega) x h
    · split at h
      · rename_i h4
        simp only [List.mem_cons, List.not_mem_nil, or_false] at h
        subst h
        refine ⟨by omega, ?_⟩
        rw [List.getD_eq_getElem?_getD, List.getElem?_eq_getElem (by omega)] at h4
        exact h4
      · cases h

def encN1 (l : List Nat) : List (List D) := l.map fun (n : Nat) => [.int .i64 (n : Int)]
theorem encN1_length (l : List Nat) : (encN1 l).length = l.length := by simp [encN1]
theorem encN1_lt (n : Nat) : ∀ l : List Nat, ltX n (encN1 l)
  | [] => trivial
  | s :: l => ⟨⟨trivial, trivial⟩, encN1_lt n l⟩
theorem encN1_snoc (l : List Nat) (x : Nat) : encN1 l ++ [[.int .i64 (x : Int)]] = encN1 (l ++ [x]) := by simp [encN1]
theorem encN1_get (l : List Nat) (j : Nat) (h : j < l.length) : (encN1 l).getD j [] = [.int .i64 (l[j] : Int)] := by simp [encN1, List.getD, h]

structure NxS where
  i : Nat
  g : Nat

theorem word_size (s : ByteArray) (h : isWord s = true) : s.size ≤ 64 := by
  rw [← rWord_eq] at h
  simp only [Bool.and_eq_true, decide_eq_true_eq] at h
  omega

abbrev sysB : ByteArray := ⟨#[83, 121, 115, 116, 101, 109]⟩
abbrev outB : ByteArray := ⟨#[111, 117, 116]⟩
abbrev prlB : ByteArray := ⟨#[112, 114, 105, 110, 116, 108, 110]⟩

theorem nmOk_of {nm : ByteArray} (h1 : isWord nm = true) (h2 : isKw nm = false) (n1 : ¬ nm = sysB) (n2 : ¬ nm = outB) (n3 : ¬ nm = prlB) : NmOk nm.data.toList := by
  have hb : bsL nm.data.toList = nm := rfl
  have inj : ∀ {b : ByteArray}, nm.data.toList = b.data.toList → nm = b := fun e => ByteArray.ext (Array.toList_inj.1 e)
  have hw := h1
  unfold isWord at hw
  refine ⟨?_, ?_, ?_, fun e => n1 (inj e), fun e => n2 (inj e), fun e => n3 (inj e)⟩
  · intro e
    rw [e] at hw
    cases hw
  · intro c hc
    cases hl : nm.data.toList with
    | nil => rw [hl] at hc; cases hc
    | cons b r =>
      rw [hl] at hw hc
      simp only [Bool.and_eq_true, decide_eq_true_eq] at hw
      exact List.all_eq_true.1 hw.2.2 c hc
  · rw [hb]
    unfold wordK
    rw [h2, h1]
    rfl

theorem modIx (z : Int) (n : Nat) (h : 0 < n) (h2 : n ≤ 1000000) : ∃ r : Nat, r < n ∧ IntKind.i64.wrap ((IntKind.u64.wrap z).tmod (IntKind.u64.wrap (n : Int))) = (r : Int) := by
  have h0 : 0 ≤ IntKind.u64.wrap z := by
    simp only [IntKind.wrap, IntKind.bits, IntKind.signed]
    simp
    omega
  have e := IntWalk.u64_in (n : Int) (by omega)
  rw [e]
  generalize IntKind.u64.wrap z = y at *
  have h3 : y.tmod (n : Int) = y % (n : Int) := Int.tmod_eq_emod_of_nonneg h0
  have h4 := Int.emod_nonneg y (show (n : Int) ≠ 0 by omega)
  have h5 := Int.emod_lt_of_pos y (show (0 : Int) < n by omega)
  rw [h3, IntWalk.i64_in _ (by omega)]
  exact ⟨(y % (n : Int)).toNat, by omega, by omega⟩

set_option maxHeartbeats 4000000 in
theorem lexNames_calls (s nm : ByteArray) (z : Int) (hnm : nm.size ≤ 140737488355328) (σ : St) (hg : GM σ) : HCalls Tryd.prog 4 [.str s, .str nm, .int .i64 z] σ (fun d _ => d = .bool true) := by
  refine hcalls_body (fn := Tryd.f4) rfl c4 (by simp [h4]) (by simp [h4, Tryd.f4]) ?_
  intro M hP hr hnt hnx hwf hlt
  have rest := fun τ k H hk hk4 => namesC_ok s nm k σ τ M H hk hk4
  simp only [lnmC, h4, tlC, argEnv] at rest ⊢
  refine hgo_sound 60 ?_
  simp -implicitDefEqProofs (maxSteps := 1000000) only [simpS, ↓condJ_true, ↓condJ_false, ↓reduceIte, Nat.reduceEqDiff, Nat.reduceLT, Nat.reduceLeDiff, reduceCtorEq, Nat.reduceAdd, Nat.reduceSub, bindG_none, addG_none, hgrpK_none, nestK_none, hgrpK_guarded, Option.map_none, beq_self_eq_true, bne_self_eq_false, Option.map_some, if_true, if_false, List.getD_cons_zero, List.getD_cons_succ, List.length_cons, List.length_nil, List.mem_cons, List.not_mem_nil, List.mem_append, List.nil_append, List.cons_append, List.append_nil, List.take_succ_cons, List.take_zero, List.drop_succ_cons, List.drop_zero, List.set_cons_zero, List.set_cons_succ, List.map_cons, List.map_nil, implies_true, forall_const, ne_eq]
  refine hx_call (f := .fn 8) rfl (by rw [hP]; exact hcallD_func (alive_calls _ hg)) ?_
  rintro _ σ2 ⟨rfl, h⟩
  subst σ2
  by_cases hs : 2000 < s.size
  · have hd : decide ((s.size : Int) > 2000) = true := decide_eq_true (by omega)
    refine hgo_sound 90 ?_
    simp -implicitDefEqProofs (maxSteps := 1000000) only [simpS, ↓condJ_true, ↓condJ_false, ↓reduceIte, Nat.reduceEqDiff, Nat.reduceLT, Nat.reduceLeDiff, reduceCtorEq, Nat.reduceAdd, Nat.reduceSub, bindG_none, addG_none, hgrpK_none, nestK_none, hgrpK_guarded, Option.map_none, beq_self_eq_true, bne_self_eq_false, Option.map_some, if_true, if_false, List.getD_cons_zero, List.getD_cons_succ, List.length_cons, List.length_nil, List.mem_cons, List.not_mem_nil, List.mem_append, List.nil_append, List.cons_append, List.append_nil, List.take_succ_cons, List.take_zero, List.drop_succ_cons, List.drop_zero, List.set_cons_zero, List.set_cons_succ, List.map_cons, List.map_nil, implies_true, forall_const, ne_eq, hd]
    exact fpost_pure (σ0 := σ) (.inr rfl) (by rw [hnx]; exact Nat.le_refl _) hwf (Sub.refl σ) rfl trivial trivial rfl
  have hd : decide ((s.size : Int) > 2000) = false := decide_eq_false (by omega)
  refine hgo_sound 60 ?_
  simp -implicitDefEqProofs (maxSteps := 1000000) only [simpS, ↓condJ_true, ↓condJ_false, ↓reduceIte, Nat.reduceEqDiff, Nat.reduceLT, Nat.reduceLeDiff, reduceCtorEq, Nat.reduceAdd, Nat.reduceSub, bindG_none, addG_none, hgrpK_none, nestK_none, hgrpK_guarded, Option.map_none, beq_self_eq_true, bne_self_eq_false, Option.map_some, if_true, if_false, List.getD_cons_zero, List.getD_cons_succ, List.length_cons, List.length_nil, List.mem_cons, List.not_mem_nil, List.mem_append, List.nil_append, List.cons_append, List.append_nil, List.take_succ_cons, List.take_zero, List.drop_succ_cons, List.drop_zero, List.set_cons_zero, List.set_cons_succ, List.map_cons, List.map_nil, implies_true, forall_const, ne_eq, hd]
  refine hx_call (f := .fn 13) rfl (by rw [hP]; exact hcallD_func (rname_calls nm hnm _)) ?_
  rintro _ σ2 ⟨rfl, h⟩
  subst σ2
  have hne := name_calls nm hnm σ hg.gk
  cases hv : (isWord nm && !isKw nm)
  · refine hgo_sound 90 ?_
    simp -implicitDefEqProofs (maxSteps := 1000000) only [simpS, ↓condJ_true, ↓condJ_false, ↓reduceIte, Nat.reduceEqDiff, Nat.reduceLT, Nat.reduceLeDiff, reduceCtorEq, Nat.reduceAdd, Nat.reduceSub, bindG_none, addG_none, hgrpK_none, nestK_none, hgrpK_guarded, Option.map_none, beq_self_eq_true, bne_self_eq_false, Option.map_some, if_true, if_false, List.getD_cons_zero, List.getD_cons_succ, List.length_cons, List.length_nil, List.mem_cons, List.not_mem_nil, List.mem_append, List.nil_append, List.cons_append, List.append_nil, List.take_succ_cons, List.take_zero, List.drop_succ_cons, List.drop_zero, List.set_cons_zero, List.set_cons_succ, List.map_cons, List.map_nil, implies_true, forall_const, ne_eq]
    exact fpost_pure (σ0 := σ) (.inr rfl) (by rw [hnx]; exact Nat.le_refl _) hwf (Sub.refl σ) rfl trivial trivial rfl
  have hnE : nameE nm = 0 := by unfold nameE; rw [hv]; rfl
  rw [hnE, erD_zero] at hne
  refine hgo_sound 60 ?_
  simp -implicitDefEqProofs (maxSteps := 1000000) only [simpS, ↓condJ_true, ↓condJ_false, ↓reduceIte, Nat.reduceEqDiff, Nat.reduceLT, Nat.reduceLeDiff, reduceCtorEq, Nat.reduceAdd, Nat.reduceSub, bindG_none, addG_none, hgrpK_none, nestK_none, hgrpK_guarded, Option.map_none, beq_self_eq_true, bne_self_eq_false, Option.map_some, if_true, if_false, List.getD_cons_zero, List.getD_cons_succ, List.length_cons, List.length_nil, List.mem_cons, List.not_mem_nil, List.mem_append, List.nil_append, List.cons_append, List.append_nil, List.take_succ_cons, List.take_zero, List.drop_succ_cons, List.drop_zero, List.set_cons_zero, List.set_cons_succ, List.map_cons, List.map_nil, implies_true, forall_const, ne_eq]
  refine hx_call (f := .fn 14) rfl (by rw [hP]; exact hcallD_func (hne)) ?_
  rintro _ σ2 ⟨rfl, h⟩
  subst σ2
  by_cases n1 : nm = sysB
  · have b1 : decide (nm = sysB) = true := decide_eq_true n1
    refine hgo_sound 90 ?_
    simp -implicitDefEqProofs (maxSteps := 1000000) only [simpS, ↓condJ_true, ↓condJ_false, ↓reduceIte, Nat.reduceEqDiff, Nat.reduceLT, Nat.reduceLeDiff, reduceCtorEq, Nat.reduceAdd, Nat.reduceSub, bindG_none, addG_none, hgrpK_none, nestK_none, hgrpK_guarded, Option.map_none, beq_self_eq_true, bne_self_eq_false, Option.map_some, if_true, if_false, List.getD_cons_zero, List.getD_cons_succ, List.length_cons, List.length_nil, List.mem_cons, List.not_mem_nil, List.mem_append, List.nil_append, List.cons_append, List.append_nil, List.take_succ_cons, List.take_zero, List.drop_succ_cons, List.drop_zero, List.set_cons_zero, List.set_cons_succ, List.map_cons, List.map_nil, implies_true, forall_const, ne_eq, b1]
    exact fpost_pure (σ0 := σ) (.inr rfl) (by rw [hnx]; exact Nat.le_refl _) hwf (Sub.refl σ) rfl trivial trivial rfl
  have b1 : decide (nm = sysB) = false := decide_eq_false n1
  by_cases n2 : nm = outB
  · have b2 : decide (nm = outB) = true := decide_eq_true n2
    refine hgo_sound 90 ?_
    simp -implicitDefEqProofs (maxSteps := 1000000) only [simpS, ↓condJ_true, ↓condJ_false, ↓reduceIte, Nat.reduceEqDiff, Nat.reduceLT, Nat.reduceLeDiff, reduceCtorEq, Nat.reduceAdd, Nat.reduceSub, bindG_none, addG_none, hgrpK_none, nestK_none, hgrpK_guarded, Option.map_none, beq_self_eq_true, bne_self_eq_false, Option.map_some, if_true, if_false, List.getD_cons_zero, List.getD_cons_succ, List.length_cons, List.length_nil, List.mem_cons, List.not_mem_nil, List.mem_append, List.nil_append, List.cons_append, List.append_nil, List.take_succ_cons, List.take_zero, List.drop_succ_cons, List.drop_zero, List.set_cons_zero, List.set_cons_succ, List.map_cons, List.map_nil, implies_true, forall_const, ne_eq, b1, b2]
    exact fpost_pure (σ0 := σ) (.inr rfl) (by rw [hnx]; exact Nat.le_refl _) hwf (Sub.refl σ) rfl trivial trivial rfl
  have b2 : decide (nm = outB) = false := decide_eq_false n2
  by_cases n3 : nm = prlB
  · have b3 : decide (nm = prlB) = true := decide_eq_true n3
    refine hgo_sound 90 ?_
    simp -implicitDefEqProofs (maxSteps := 1000000) only [simpS, ↓condJ_true, ↓condJ_false, ↓reduceIte, Nat.reduceEqDiff, Nat.reduceLT, Nat.reduceLeDiff, reduceCtorEq, Nat.reduceAdd, Nat.reduceSub, bindG_none, addG_none, hgrpK_none, nestK_none, hgrpK_guarded, Option.map_none, beq_self_eq_true, bne_self_eq_false, Option.map_some, if_true, if_false, List.getD_cons_zero, List.getD_cons_succ, List.length_cons, List.length_nil, List.mem_cons, List.not_mem_nil, List.mem_append, List.nil_append, List.cons_append, List.append_nil, List.take_succ_cons, List.take_zero, List.drop_succ_cons, List.drop_zero, List.set_cons_zero, List.set_cons_succ, List.map_cons, List.map_nil, implies_true, forall_const, ne_eq, b1, b2, b3]
    exact fpost_pure (σ0 := σ) (.inr rfl) (by rw [hnx]; exact Nat.le_refl _) hwf (Sub.refl σ) rfl trivial trivial rfl
  have b3 : decide (nm = prlB) = false := decide_eq_false n3
  have hwd : isWord nm = true ∧ isKw nm = false := by simpa using hv
  have hok := nmOk_of hwd.1 hwd.2 n1 n2 n3
  have hms := word_size nm hwd.1
  have hle := toks_le s
  refine hgo_sound 90 ?_
  simp -implicitDefEqProofs (maxSteps := 1000000) only [simpS, ↓condJ_true, ↓condJ_false, ↓reduceIte, Nat.reduceEqDiff, Nat.reduceLT, Nat.reduceLeDiff, reduceCtorEq, Nat.reduceAdd, Nat.reduceSub, bindG_none, addG_none, hgrpK_none, nestK_none, hgrpK_guarded, Option.map_none, beq_self_eq_true, bne_self_eq_false, Option.map_some, if_true, if_false, List.getD_cons_zero, List.getD_cons_succ, List.length_cons, List.length_nil, List.mem_cons, List.not_mem_nil, List.mem_append, List.nil_append, List.cons_append, List.append_nil, List.take_succ_cons, List.take_zero, List.drop_succ_cons, List.drop_zero, List.set_cons_zero, List.set_cons_succ, List.map_cons, List.map_nil, implies_true, forall_const, ne_eq, b1, b2, b3]
  refine hx_call (f := .fn 12) rfl (by rw [hP]; exact hcallD_func (list_calls s (by omega) _ hg)) ?_
  rintro _ σ2 ⟨rfl, h⟩
  subst σ2
  generalize toks s.data.toList 0 = W at *
  refine hgo_sound 60 ?_
  simp -implicitDefEqProofs (maxSteps := 1000000) only [simpS, ↓condJ_true, ↓condJ_false, ↓reduceIte, Nat.reduceEqDiff, Nat.reduceLT, Nat.reduceLeDiff, reduceCtorEq, Nat.reduceAdd, Nat.reduceSub, bindG_none, addG_none, hgrpK_none, nestK_none, hgrpK_guarded, Option.map_none, beq_self_eq_true, bne_self_eq_false, Option.map_some, if_true, if_false, List.getD_cons_zero, List.getD_cons_succ, List.length_cons, List.length_nil, List.mem_cons, List.not_mem_nil, List.mem_append, List.nil_append, List.cons_append, List.append_nil, List.take_succ_cons, List.take_zero, List.drop_succ_cons, List.drop_zero, List.set_cons_zero, List.set_cons_succ, List.map_cons, List.map_nil, implies_true, forall_const, ne_eq, encTk_length]
  refine hx_know_code fun hw hl hn => ?_
  have hS : ∀ t : NxS, (σ.new (.vec t.g 1 (encN1 (nmIx W t.i)))).wf := fun t => hwf.new (o := .vec t.g 1 (encN1 (nmIx W t.i))) (encN1_lt _ _)
  refine hx_loop (S := NxS) (fun t => [(0, .str s), (1, .str nm), (2, .int .i64 z), (7, .slice .no 3 (encTk W)), (8, .vec σ.next t.g), (46, .slice .no 3 (encTk W)), (47, .int .i64 (W.length : Int)), (48, .int .i64 (t.i : Int))]) (fun t => σ.new (.vec t.g 1 (encN1 (nmIx W t.i))))
    (fun t => t.i ≤ W.length) (fun t => W.length - t.i) ⟨0, 0⟩ (Nat.zero_le _) (fun _ _ h => by rw [hr] at h; cases h) ?_ ?_
  · exact Drop.all hw hn ⟨⟨rfl, trivial⟩, ⟨rfl, trivial⟩, ⟨rfl, trivial⟩, ⟨rfl, encTk_slt _ _⟩, ⟨rfl, by simp only [D.lt, St.next_new]; omega⟩, ⟨rfl, encTk_slt _ _⟩, ⟨rfl, trivial⟩, ⟨rfl, trivial⟩, trivial⟩
  rintro ⟨i, g⟩ i1
  simp only at i1 ⊢
  have hnl := nmIx_len W i
  by_cases hi : i < W.length
  · have hd : decide ((i : Int) < (W.length : Int)) = true := decide_eq_true (by omega)
    have hi' : (i : Int) < (W.length : Int) := by omega
    have hgi := encTk_get W i hi
    have hwi : IntKind.i64.wrap ((i : Int) + 1) = ((i + 1 : Nat) : Int) := by rw [IntWalk.i64_in _ (by omega)]; rfl
    have hgd : W.getD i ⟨0, 0, 0⟩ = W[i] := by rw [List.getD_eq_getElem?_getD, List.getElem?_eq_getElem hi]; rfl
    have hsz : ((nmIx W i).length + 1) * 8 ≤ 140737488355328 ∧ (nmIx W i).length + 1 ≤ 9223372036854775807 := by omega
    have hm1 : ¬ σ.next = σ.next + 1 := by omega
    by_cases h4 : (W[i]).k = 4
    · have hb4 : ((W[i].k : Int) == 4) = true := by rw [h4]; rfl
      have hst : nmIx W (i + 1) = nmIx W i ++ [i] := by simp only [nmIx, hgd, h4, if_true]
      refine hgo_sound 90 ?_
      simp -implicitDefEqProofs (maxSteps := 1000000) only [simpS, ↓condJ_true, ↓condJ_false, ↓reduceIte, Nat.reduceEqDiff, Nat.reduceLT, Nat.reduceLeDiff, reduceCtorEq, Nat.reduceAdd, Nat.reduceSub, bindG_none, addG_none, hgrpK_none, nestK_none, hgrpK_guarded, Option.map_none, beq_self_eq_true, bne_self_eq_false, Option.map_some, if_true, if_false, List.getD_cons_zero, List.getD_cons_succ, List.length_cons, List.length_nil, List.mem_cons, List.not_mem_nil, List.mem_append, List.nil_append, List.cons_append, List.append_nil, List.take_succ_cons, List.take_zero, List.drop_succ_cons, List.drop_zero, List.set_cons_zero, List.set_cons_succ, List.map_cons, List.map_nil, implies_true, forall_const, ne_eq, hd, hi', hi, hgi, hb4, hwi, hm1, hsz.1, hsz.2, encN1_length, encTk_length, Int.toNat_natCast, Int.natCast_nonneg]
      intro hw5 hl5 hn5
      refine ⟨⟨i + 1, g + 1⟩, by simp only; omega, by simp only; omega, ?_⟩
      simp only [hst, ← encN1_snoc]
      exact Drop.allS (((Ext.refl _).new _).sub (by have := hS ⟨i + 1, g + 1⟩; simp only [hst, ← encN1_snoc] at this; exact this)) (by have := hS ⟨i + 1, g + 1⟩; simp only [hst, ← encN1_snoc] at this; exact this) (by rw [hnx, St.next_new]; omega) ⟨⟨rfl, trivial⟩, ⟨rfl, trivial⟩, ⟨rfl, trivial⟩, ⟨rfl, encTk_slt _ _⟩, ⟨rfl, by simp only [D.lt, St.next_new]; omega⟩, ⟨rfl, encTk_slt _ _⟩, ⟨rfl, trivial⟩, ⟨rfl, trivial⟩, trivial⟩
    · have hb4 : ((W[i].k : Int) == 4) = false := by simp only [beq_eq_false_iff_ne, ne_eq]; omega
      have hst : nmIx W (i + 1) = nmIx W i := by simp only [nmIx, hgd, h4, if_false, List.append_nil]
      refine hgo_sound 90 ?_
      simp -implicitDefEqProofs (maxSteps := 1000000) only [simpS, ↓condJ_true, ↓condJ_false, ↓reduceIte, Nat.reduceEqDiff, Nat.reduceLT, Nat.reduceLeDiff, reduceCtorEq, Nat.reduceAdd, Nat.reduceSub, bindG_none, addG_none, hgrpK_none, nestK_none, hgrpK_guarded, Option.map_none, beq_self_eq_true, bne_self_eq_false, Option.map_some, if_true, if_false, List.getD_cons_zero, List.getD_cons_succ, List.length_cons, List.length_nil, List.mem_cons, List.not_mem_nil, List.mem_append, List.nil_append, List.cons_append, List.append_nil, List.take_succ_cons, List.take_zero, List.drop_succ_cons, List.drop_zero, List.set_cons_zero, List.set_cons_succ, List.map_cons, List.map_nil, implies_true, forall_const, ne_eq, hd, hi', hi, hgi, hb4, hwi, hm1, hsz.1, hsz.2, encN1_length, encTk_length, Int.toNat_natCast, Int.natCast_nonneg]
      intro hw5 hl5 hn5
      refine ⟨⟨i + 1, g⟩, by simp only; omega, by simp only; omega, ?_⟩
      simp only [hst]
      exact Drop.allS (((Ext.refl _).new _).sub (hS ⟨i, g⟩)) (hS ⟨i, g⟩) (by rw [hnx, St.next_new]; omega) ⟨⟨rfl, trivial⟩, ⟨rfl, trivial⟩, ⟨rfl, trivial⟩, ⟨rfl, encTk_slt _ _⟩, ⟨rfl, by simp only [D.lt, St.next_new]; omega⟩, ⟨rfl, encTk_slt _ _⟩, ⟨rfl, trivial⟩, ⟨rfl, trivial⟩, trivial⟩
  · have hd : decide ((i : Int) < (W.length : Int)) = false := decide_eq_false (by omega)
    have hmem := nmIx_mem W i i1
    have hwS := hS ⟨i, g⟩
    simp only at hwS
    generalize nmIx W i = L at *
    cases L with
    | nil =>
      have hz : (((encN1 []).length : Int) == 0) = true := rfl
      refine hgo_sound 90 ?_
      simp -implicitDefEqProofs (maxSteps := 1000000) only [simpS, ↓condJ_true, ↓condJ_false, ↓reduceIte, Nat.reduceEqDiff, Nat.reduceLT, Nat.reduceLeDiff, reduceCtorEq, Nat.reduceAdd, Nat.reduceSub, bindG_none, addG_none, hgrpK_none, nestK_none, hgrpK_guarded, Option.map_none, beq_self_eq_true, bne_self_eq_false, Option.map_some, if_true, if_false, List.getD_cons_zero, List.getD_cons_succ, List.length_cons, List.length_nil, List.mem_cons, List.not_mem_nil, List.mem_append, List.nil_append, List.cons_append, List.append_nil, List.take_succ_cons, List.take_zero, List.drop_succ_cons, List.drop_zero, List.set_cons_zero, List.set_cons_succ, List.map_cons, List.map_nil, implies_true, forall_const, ne_eq, hd, hz]
      exact fpost_pure (σ0 := σ) (.inr rfl) (by rw [hnx]; exact Nat.le_refl _) hwf (((Ext.refl _).new _).sub hwf) rfl trivial trivial rfl
    | cons c L =>
      have hz : ((((c :: L).length : Nat) : Int) == 0) = false := by simp only [List.length_cons, beq_eq_false_iff_ne, ne_eq]; omega
      obtain ⟨r, r1, r2⟩ := modIx z (c :: L).length (by simp) (by omega)
      have r3 := encN1_get (c :: L) r r1
      have r4 : (r : Int) < (((c :: L).length : Nat) : Int) := by omega
      obtain ⟨k1, k2⟩ := hmem _ (List.getElem_mem r1)
      have hH : LmH M σ (σ.new (.vec g 1 (encN1 (c :: L)))) s nm := ⟨hP, hr, hnt, hnx, hwf, by omega, hms, (Ext.refl σ).new _, hwS, hg.to rfl, hok⟩
      have fin := rest _ _ hH k1 k2
      generalize (c :: L)[r] = kk at *
      generalize hcl : (c :: L).length = n at *
      have hln2 : (encN1 (c :: L)).length = n := by rw [encN1_length]; exact hcl
      generalize encN1 (c :: L) = X at *
      refine hgo_sound 42 ?_
      simp -implicitDefEqProofs (maxSteps := 1000000) only [simpS, ↓condJ_true, ↓condJ_false, ↓reduceIte, Nat.reduceEqDiff, Nat.reduceLT, Nat.reduceLeDiff, reduceCtorEq, Nat.reduceAdd, Nat.reduceSub, bindG_none, addG_none, hgrpK_none, nestK_none, hgrpK_guarded, Option.map_none, beq_self_eq_true, bne_self_eq_false, Option.map_some, if_true, if_false, List.getD_cons_zero, List.getD_cons_succ, List.length_cons, List.length_nil, List.mem_cons, List.not_mem_nil, List.mem_append, List.nil_append, List.cons_append, List.append_nil, List.take_succ_cons, List.take_zero, List.drop_succ_cons, List.drop_zero, List.set_cons_zero, List.set_cons_succ, List.map_cons, List.map_nil, implies_true, forall_const, ne_eq, hd, hz, r2, r3, r4, hln2, r1, Int.toNat_natCast, Int.natCast_nonneg]
      exact ⟨by have e := IntWalk.u64_in (n : Int) (by omega); rw [e]; omega, hx_env [(0, .str s), (1, .str nm), (7, .slice .no 3 (encTk W)), (11, .int .i64 (kk : Int))] ⟨fun _ _ _ h => h, fun _ _ _ h => h, fun _ _ _ h => h, fun _ _ _ h => h, trivial⟩ fin (fun _ e => by cases e) (fun _ e => by cases e)⟩

end Go.Hl
