/-
  Layer 8: the cursor's functions.
-/
import Derived.Test.YtijcddlahidhhaaGreatDoorLxE
set_option linter.unusedSectionVars false
set_option linter.unusedVariables false
set_option linter.unusedSimpArgs false
set_option maxRecDepth 100000
namespace Go.Hl
open Go Go.Proofs Go.RowKit

structure Cu where
  s : ByteArray
  L : List Tk3
  n : Nat
  la : Nat
  dp : Nat
  at_ : Nat
  er : Nat

abbrev encC (c : Cu) : List D := [.str c.s, .slice .no 3 (encTk c.L), .int .i64 (c.n : Int), .int .i64 (c.la : Int), .int .i64 (c.dp : Int), .int .i64 (c.at_ : Int), .int .i64 (c.er : Int)]

structure Cu.ok (c : Cu) : Prop where
  small : c.s.size ≤ 4000
  len : c.L.length ≤ c.s.size
  in_ : ∀ x ∈ c.L, x.f ≤ x.t ∧ x.t ≤ c.s.size
  next : c.n ≤ c.L.length
  last : c.la ≤ c.s.size
  lastf : ∀ x, c.L[c.n]? = some x → c.la ≤ x.f

def leftC (c : Cu) : Nat := if c.er = 0 then c.L.length - c.n else 0

theorem left_calls (id : Nat) (c : Cu) (hc : c.ok) (σ : St) (ho : σ.obj id = some (.box (encC c))) : HCalls Tryz.prog 20 [.ptr id 0] σ (fun d σ' => d = .int .i64 (leftC c : Int) ∧ σ' = σ) := by
  refine hcalls_body (fn := Tryz.f20) rfl c20 (by simp [h20]) (by simp [h20, Tryz.f20]) ?_
  intro M hP hr hnt hnx hwf hlt
  simp only [h20, argEnv]
  have hnt' : M.nt = 22 := hnt
  have hnx := hc.next
  by_cases he : c.er = 0
  · have e1 : ((c.er : Int) != 0) = false := by rw [he]; rfl
    have hw : IntKind.i64.wrap ((c.L.length : Int) - (c.n : Int)) = ((c.L.length - c.n : Nat) : Int) := by
      have := hc.len; have := hc.small
      rw [IntWalk.i64_in _ (by omega)]; omega
    have hl : leftC c = c.L.length - c.n := by unfold leftC; rw [if_pos he]
    rw [hl]
    refine hgo_sound 90 ?_
    simp -implicitDefEqProofs (maxSteps := 1000000) only [simpS, ↓condJ_true, ↓condJ_false, ↓reduceIte, Nat.reduceEqDiff, Nat.reduceLT, Nat.reduceLeDiff, reduceCtorEq, Nat.reduceAdd, Nat.reduceSub, noneS, listS, implies_true, forall_const, ne_eq, ho, e1]
    refine hx_drawgo 1 ?_
    simp -implicitDefEqProofs (maxSteps := 100000000) only [drawS, listS, List.getElem?_cons_zero, List.getElem?_cons_succ, List.getElem?_nil, simpS, ↓condJ_true, ↓condJ_false, ↓reduceIte, Nat.reduceEqDiff, Nat.reduceLT, Nat.reduceLeDiff, reduceCtorEq, Nat.reduceAdd, Nat.reduceSub, noneS, listS, implies_true, forall_const, ne_eq, hnt', ho, e1, encTk_length, hw]
    refine hgo_sound 60 ?_
    simp -implicitDefEqProofs (maxSteps := 1000000) only [simpS, ↓condJ_true, ↓condJ_false, ↓reduceIte, Nat.reduceEqDiff, Nat.reduceLT, Nat.reduceLeDiff, reduceCtorEq, Nat.reduceAdd, Nat.reduceSub, noneS, listS, implies_true, forall_const, ne_eq]
    exact fpost_keep (.inr rfl) rfl trivial (fun _ => trivial) fun hw => ⟨rfl, rfl⟩
  · have e1 : ((c.er : Int) != 0) = true := by simp; omega
    have hl : leftC c = 0 := by unfold leftC; rw [if_neg he]
    rw [hl]
    refine hgo_sound 90 ?_
    simp -implicitDefEqProofs (maxSteps := 1000000) only [simpS, ↓condJ_true, ↓condJ_false, ↓reduceIte, Nat.reduceEqDiff, Nat.reduceLT, Nat.reduceLeDiff, reduceCtorEq, Nat.reduceAdd, Nat.reduceSub, noneS, listS, implies_true, forall_const, ne_eq, ho, e1]
    exact fpost_keep (.inr rfl) rfl trivial (fun _ => trivial) fun hw => ⟨rfl, rfl⟩

def peekC (c : Cu) (a : Int) : Nat × ByteArray :=
  if 0 ≤ a ∧ a < (leftC c : Int) then ((c.L.getD (c.n + a.toNat) ⟨0, 0, 0⟩).k, textT c.s (c.L.getD (c.n + a.toNat) ⟨0, 0, 0⟩)) else (0, ⟨#[]⟩)

theorem leftC_lt {c : Cu} {j : Nat} (h : j < leftC c) : c.er = 0 ∧ c.n + j < c.L.length := by
  unfold leftC at h
  split at h
  · rename_i e; exact ⟨e, by omega⟩
  · omega

theorem peek_calls (id : Nat) (c : Cu) (hc : c.ok) (a : Int) (σ : St) (ho : σ.obj id = some (.box (encC c))) : HCalls Tryz.prog 23 [.ptr id 0, .int .i64 a] σ (fun d σ' => d = .tuple [.int .i64 ((peekC c a).1 : Int), .str (peekC c a).2] ∧ σ' = σ) := by
  refine hcalls_body (fn := Tryz.f23) rfl c23 (by simp [h23]) (by simp [h23, Tryz.f23]) ?_
  intro M hP hr hnt hnx hwf hlt
  simp only [h23, argEnv]
  have hnt' : M.nt = 35 := hnt
  by_cases h0 : 0 ≤ a
  · have d0 : decide (a < 0) = false := decide_eq_false (by omega)
    refine hgo_sound 60 ?_
    simp -implicitDefEqProofs (maxSteps := 1000000) only [simpS, ↓condJ_true, ↓condJ_false, ↓reduceIte, Nat.reduceEqDiff, Nat.reduceLT, Nat.reduceLeDiff, reduceCtorEq, Nat.reduceAdd, Nat.reduceSub, noneS, listS, implies_true, forall_const, ne_eq, d0]
    refine hx_call (f := .fn 20) rfl (by rw [hP]; exact hcallD_func (left_calls id c hc _ ho)) ?_
    rintro _ σ2 ⟨rfl, h⟩
    subst σ2
    by_cases h1 : a < (leftC c : Int)
    · have d1 : decide (a ≥ (leftC c : Int)) = false := decide_eq_false (by omega)
      obtain ⟨j, rfl⟩ : ∃ j : Nat, a = (j : Int) := ⟨a.toNat, by omega⟩
      obtain ⟨he, hj⟩ := leftC_lt (c := c) (j := j) (by omega)
      have hg := encTk_get c.L (c.n + j) hj
      have hw : IntKind.i64.wrap ((c.n : Int) + (j : Int)) = ((c.n + j : Nat) : Int) := by
        have := hc.len; have := hc.small
        rw [IntWalk.i64_in _ (by omega)]; rfl
      have hlt : ((c.n + j : Nat) : Int) < (c.L.length : Int) := by omega
      have hx := hc.in_ c.L[c.n + j] (List.getElem_mem _)
      have hgd : c.L.getD (c.n + j) ⟨0, 0, 0⟩ = c.L[c.n + j] := by simp [List.getD, hj]
      have hp : peekC c (j : Int) = (c.L[c.n + j].k, textT c.s c.L[c.n + j]) := by unfold peekC; rw [if_pos ⟨h0, h1⟩, Int.toNat_natCast, hgd]
      have hid := (hwf.obj _ _ ho).1
      have hne : ¬ id = σ.next := by omega
      rw [hp]
      refine hgo_sound 60 ?_
      simp -implicitDefEqProofs (maxSteps := 1000000) only [simpS, ↓condJ_true, ↓condJ_false, ↓reduceIte, Nat.reduceEqDiff, Nat.reduceLT, Nat.reduceLeDiff, reduceCtorEq, Nat.reduceAdd, Nat.reduceSub, noneS, listS, implies_true, forall_const, ne_eq, d1]
      refine hx_drawgo 3 ?_
      simp -implicitDefEqProofs (maxSteps := 100000000) only [drawS, listS, List.getElem?_cons_zero, List.getElem?_cons_succ, List.getElem?_nil, simpS, ↓condJ_true, ↓condJ_false, ↓reduceIte, Nat.reduceEqDiff, Nat.reduceLT, Nat.reduceLeDiff, reduceCtorEq, Nat.reduceAdd, Nat.reduceSub, noneS, listS, implies_true, forall_const, ne_eq, hnt', ho, hne, encTk_length, hw, hg, hlt, Int.toNat_natCast, Int.natCast_nonneg]
      refine hgo_sound 60 ?_
      simp -implicitDefEqProofs (maxSteps := 1000000) only [simpS, ↓condJ_true, ↓condJ_false, ↓reduceIte, Nat.reduceEqDiff, Nat.reduceLT, Nat.reduceLeDiff, reduceCtorEq, Nat.reduceAdd, Nat.reduceSub, noneS, listS, implies_true, forall_const, ne_eq, ho, hne]
      refine hx_drawgo 1 ?_
      simp -implicitDefEqProofs (maxSteps := 100000000) only [drawS, listS, List.getElem?_cons_zero, List.getElem?_cons_succ, List.getElem?_nil, simpS, ↓condJ_true, ↓condJ_false, ↓reduceIte, Nat.reduceEqDiff, Nat.reduceLT, Nat.reduceLeDiff, reduceCtorEq, Nat.reduceAdd, Nat.reduceSub, noneS, listS, implies_true, forall_const, ne_eq, hnt', ho, hne]
      refine hd_call (i := 7) (f := .fn 40) (by simp -implicitDefEqProofs (maxSteps := 100000000) only [drawS, listS, List.getElem?_cons_zero, List.getElem?_cons_succ, List.getElem?_nil, simpS, ↓condJ_true, ↓condJ_false, ↓reduceIte, Nat.reduceEqDiff, Nat.reduceLT, Nat.reduceLeDiff, reduceCtorEq, Nat.reduceAdd, Nat.reduceSub, noneS, listS, implies_true, forall_const, ne_eq, hnt', ho, hne]) (by rfl) (by rfl) rfl (by rfl) (by rw [hP]; exact hcallD_func (ttext_calls c.s c.L[c.n + j] hx.1 hx.2 _)) ?_
      rintro _ σ2 ⟨rfl, h⟩
      subst σ2
      refine hdgo_sound 1 ?_
      simp -implicitDefEqProofs (maxSteps := 3000000) only [drawS, listS, List.getElem?_cons_zero, List.getElem?_cons_succ, List.getElem?_nil, simpS, ↓condJ_true, ↓condJ_false, ↓reduceIte, Nat.reduceEqDiff, Nat.reduceLT, Nat.reduceLeDiff, reduceCtorEq, Nat.reduceAdd, Nat.reduceSub, noneS, listS, implies_true, forall_const, ne_eq, hnt', ho, hne]
      refine hgo_sound 60 ?_
      simp -implicitDefEqProofs (maxSteps := 1000000) only [simpS, ↓condJ_true, ↓condJ_false, ↓reduceIte, Nat.reduceEqDiff, Nat.reduceLT, Nat.reduceLeDiff, reduceCtorEq, Nat.reduceAdd, Nat.reduceSub, noneS, listS, implies_true, forall_const, ne_eq]
      exact fpost_pure (σ0 := σ) (.inr rfl) (by rw [hnx]; exact Nat.le_refl _) hwf (((Ext.refl _).new _).sub hwf) rfl trivial ⟨trivial, trivial, trivial⟩ ⟨rfl, rfl⟩
    · have d1 : decide (a ≥ (leftC c : Int)) = true := decide_eq_true (by omega)
      have hp : peekC c a = (0, ⟨#[]⟩) := by unfold peekC; rw [if_neg (by omega)]
      rw [hp]
      refine hgo_sound 60 ?_
      simp -implicitDefEqProofs (maxSteps := 1000000) only [simpS, ↓condJ_true, ↓condJ_false, ↓reduceIte, Nat.reduceEqDiff, Nat.reduceLT, Nat.reduceLeDiff, reduceCtorEq, Nat.reduceAdd, Nat.reduceSub, noneS, listS, implies_true, forall_const, ne_eq, d1]
      exact fpost_keep (.inr rfl) rfl trivial (fun _ => ⟨trivial, trivial, trivial⟩) fun hw => ⟨rfl, rfl⟩
  · have d0 : decide (a < 0) = true := decide_eq_true (by omega)
    have hp : peekC c a = (0, ⟨#[]⟩) := by unfold peekC; rw [if_neg (by omega)]
    rw [hp]
    refine hgo_sound 60 ?_
    simp -implicitDefEqProofs (maxSteps := 1000000) only [simpS, ↓condJ_true, ↓condJ_false, ↓reduceIte, Nat.reduceEqDiff, Nat.reduceLT, Nat.reduceLeDiff, reduceCtorEq, Nat.reduceAdd, Nat.reduceSub, noneS, listS, implies_true, forall_const, ne_eq, d0]
    exact fpost_keep (.inr rfl) rfl trivial (fun _ => ⟨trivial, trivial, trivial⟩) fun hw => ⟨rfl, rfl⟩

def atC (c : Cu) : Nat := if leftC c = 0 then c.s.size else (c.L.getD c.n ⟨0, 0, 0⟩).f

theorem at_calls (id : Nat) (c : Cu) (hc : c.ok) (σ : St) (ho : σ.obj id = some (.box (encC c))) : HCalls Tryz.prog 31 [.ptr id 0] σ (fun d σ' => d = .int .i64 (atC c : Int) ∧ σ' = σ) := by
  refine hcalls_body (fn := Tryz.f31) rfl c31 (by simp [h31]) (by simp [h31, Tryz.f31]) ?_
  intro M hP hr hnt hnx hwf hlt
  simp only [h31, argEnv]
  have hnt' : M.nt = 26 := hnt
  refine hgo_sound 60 ?_
  simp -implicitDefEqProofs (maxSteps := 1000000) only [simpS, ↓condJ_true, ↓condJ_false, ↓reduceIte, Nat.reduceEqDiff, Nat.reduceLT, Nat.reduceLeDiff, reduceCtorEq, Nat.reduceAdd, Nat.reduceSub, noneS, listS, implies_true, forall_const, ne_eq]
  refine hx_call (f := .fn 20) rfl (by rw [hP]; exact hcallD_func (left_calls id c hc _ ho)) ?_
  rintro _ σ2 ⟨rfl, h⟩
  subst σ2
  by_cases h0 : leftC c = 0
  · have e0 : ((leftC c : Int) == 0) = true := by rw [h0]; rfl
    have hp : atC c = c.s.size := by unfold atC; rw [if_pos h0]
    rw [hp]
    refine hgo_sound 90 ?_
    simp -implicitDefEqProofs (maxSteps := 1000000) only [simpS, ↓condJ_true, ↓condJ_false, ↓reduceIte, Nat.reduceEqDiff, Nat.reduceLT, Nat.reduceLeDiff, reduceCtorEq, Nat.reduceAdd, Nat.reduceSub, noneS, listS, implies_true, forall_const, ne_eq, e0, ho]
    exact fpost_keep (.inr rfl) rfl trivial (fun _ => trivial) fun hw => ⟨rfl, rfl⟩
  · have e0 : ((leftC c : Int) == 0) = false := by simp; omega
    obtain ⟨he, hj⟩ := leftC_lt (c := c) (j := 0) (by omega)
    have hg := encTk_get c.L c.n hj
    have hlt : (c.n : Int) < (c.L.length : Int) := by omega
    have hgd : c.L.getD c.n ⟨0, 0, 0⟩ = c.L[c.n] := by simp [List.getD, show c.n < c.L.length from hj]
    have hp : atC c = c.L[c.n].f := by unfold atC; rw [if_neg h0, hgd]
    rw [hp]
    refine hgo_sound 90 ?_
    simp -implicitDefEqProofs (maxSteps := 1000000) only [simpS, ↓condJ_true, ↓condJ_false, ↓reduceIte, Nat.reduceEqDiff, Nat.reduceLT, Nat.reduceLeDiff, reduceCtorEq, Nat.reduceAdd, Nat.reduceSub, noneS, listS, implies_true, forall_const, ne_eq, e0, ho]
    refine hx_drawgo 1 ?_
    simp -implicitDefEqProofs (maxSteps := 100000000) only [drawS, listS, List.getElem?_cons_zero, List.getElem?_cons_succ, List.getElem?_nil, simpS, ↓condJ_true, ↓condJ_false, ↓reduceIte, Nat.reduceEqDiff, Nat.reduceLT, Nat.reduceLeDiff, reduceCtorEq, Nat.reduceAdd, Nat.reduceSub, noneS, listS, implies_true, forall_const, ne_eq, hnt', ho, encTk_length, hg, hlt, Int.toNat_natCast, Int.natCast_nonneg]
    refine hgo_sound 60 ?_
    simp -implicitDefEqProofs (maxSteps := 1000000) only [simpS, ↓condJ_true, ↓condJ_false, ↓reduceIte, Nat.reduceEqDiff, Nat.reduceLT, Nat.reduceLeDiff, reduceCtorEq, Nat.reduceAdd, Nat.reduceSub, noneS, listS, implies_true, forall_const, ne_eq]
    exact fpost_keep (.inr rfl) rfl trivial (fun _ => trivial) fun hw => ⟨rfl, rfl⟩

def isC (c : Cu) (a : Int) (x : ByteArray) : Bool := (decide ((peekC c a).1 = 3) || decide ((peekC c a).1 = 6)) && decide ((peekC c a).2 = x)

theorem cis_calls (id : Nat) (c : Cu) (hc : c.ok) (a : Int) (x : ByteArray) (σ : St) (ho : σ.obj id = some (.box (encC c))) : HCalls Tryz.prog 29 [.ptr id 0, .int .i64 a, .str x] σ (fun d σ' => d = .bool (isC c a x) ∧ σ' = σ) := by
  refine hcalls_body (fn := Tryz.f29) rfl c29 (by simp [h29]) (by simp [h29, Tryz.f29]) ?_
  intro M hP hr hnt hnx hwf hlt
  simp only [h29, argEnv]
  have hnt' : M.nt = 26 := hnt
  refine hgo_sound 60 ?_
  simp -implicitDefEqProofs (maxSteps := 1000000) only [simpS, ↓condJ_true, ↓condJ_false, ↓reduceIte, Nat.reduceEqDiff, Nat.reduceLT, Nat.reduceLeDiff, reduceCtorEq, Nat.reduceAdd, Nat.reduceSub, noneS, listS, implies_true, forall_const, ne_eq]
  refine hx_call (f := .fn 23) rfl (by rw [hP]; exact hcallD_func (peek_calls id c hc a _ ho)) ?_
  rintro _ σ2 ⟨rfl, h⟩
  subst σ2
  unfold isC
  generalize peekC c a = q
  obtain ⟨k, t⟩ := q
  have e3 : ((k : Int) == 3) = decide (k = 3) := by rw [Bool.eq_iff_iff]; simp; omega
  have e6 : ((k : Int) == 6) = decide (k = 6) := by rw [Bool.eq_iff_iff]; simp; omega
  simp only
  cases hk3 : decide (k = 3)
  · cases hk6 : decide (k = 6)
    · refine hgo_sound 60 ?_
      simp -implicitDefEqProofs (maxSteps := 1000000) only [simpS, ↓condJ_true, ↓condJ_false, ↓reduceIte, Nat.reduceEqDiff, Nat.reduceLT, Nat.reduceLeDiff, reduceCtorEq, Nat.reduceAdd, Nat.reduceSub, noneS, listS, implies_true, forall_const, ne_eq, e3, e6, hk3, hk6]
      exact fpost_keep (.inr rfl) rfl trivial (fun _ => trivial) fun hw => ⟨rfl, rfl⟩
    · refine hgo_sound 60 ?_
      simp -implicitDefEqProofs (maxSteps := 1000000) only [simpS, ↓condJ_true, ↓condJ_false, ↓reduceIte, Nat.reduceEqDiff, Nat.reduceLT, Nat.reduceLeDiff, reduceCtorEq, Nat.reduceAdd, Nat.reduceSub, noneS, listS, implies_true, forall_const, ne_eq, e3, e6, hk3, hk6]
      exact fpost_keep (.inr rfl) rfl trivial (fun _ => trivial) fun hw => ⟨rfl, rfl⟩
  · refine hgo_sound 60 ?_
    simp -implicitDefEqProofs (maxSteps := 1000000) only [simpS, ↓condJ_true, ↓condJ_false, ↓reduceIte, Nat.reduceEqDiff, Nat.reduceLT, Nat.reduceLeDiff, reduceCtorEq, Nat.reduceAdd, Nat.reduceSub, noneS, listS, implies_true, forall_const, ne_eq, e3, e6, hk3]
    exact fpost_keep (.inr rfl) rfl trivial (fun _ => trivial) fun hw => ⟨rfl, rfl⟩

def failC (c : Cu) (e : Int) : Cu := if c.er = 0 then { c with at_ := atC c, er := if e < 1 ∨ e > 15 then 2 else e.toNat } else c

theorem fail_calls (id : Nat) (c : Cu) (hc : c.ok) (e : Int) (σ : St) (ho : σ.obj id = some (.box (encC c))) : HCalls Tryz.prog 17 [.ptr id 0, .int .i64 e] σ (fun _ σ' => σ' = σ.put id (.box (encC (failC c e)))) := by
  refine hcalls_body (fn := Tryz.f17) rfl c17 (by simp [h17]) (by simp [h17, Tryz.f17]) ?_
  intro M hP hr hnt hnx hwf hlt
  simp only [h17, argEnv]
  have hnt' : M.nt = 28 := hnt
  by_cases he : c.er = 0
  · have e1 : ((c.er : Int) != 0) = false := by rw [he]; rfl
    by_cases h1 : e < 1
    · have d1 : decide (e < 1) = true := decide_eq_true h1
      have hf : failC c e = { c with at_ := atC c, er := 2 } := by unfold failC; rw [if_pos he, if_pos (.inl h1)]
      rw [hf]
      refine hgo_sound 90 ?_
      simp -implicitDefEqProofs (maxSteps := 1000000) only [simpS, ↓condJ_true, ↓condJ_false, ↓reduceIte, Nat.reduceEqDiff, Nat.reduceLT, Nat.reduceLeDiff, reduceCtorEq, Nat.reduceAdd, Nat.reduceSub, noneS, listS, implies_true, forall_const, ne_eq, ho, e1, d1]
      refine hx_call (f := .fn 31) rfl (by rw [hP]; exact hcallD_func (at_calls id c hc _ ho)) ?_
      rintro _ σ2 ⟨rfl, h⟩
      subst σ2
      refine hgo_sound 90 ?_
      simp -implicitDefEqProofs (maxSteps := 1000000) only [simpS, ↓condJ_true, ↓condJ_false, ↓reduceIte, Nat.reduceEqDiff, Nat.reduceLT, Nat.reduceLeDiff, reduceCtorEq, Nat.reduceAdd, Nat.reduceSub, noneS, listS, implies_true, forall_const, ne_eq, ho]
      exact fpost_keep (.inl rfl) rfl trivial (fun _ => trivial) fun hw => rfl
    · have d1 : decide (e < 1) = false := decide_eq_false h1
      by_cases h2 : e > 15
      · have d2 : decide (e > 15) = true := decide_eq_true h2
        have hf : failC c e = { c with at_ := atC c, er := 2 } := by unfold failC; rw [if_pos he, if_pos (.inr h2)]
        rw [hf]
        refine hgo_sound 90 ?_
        simp -implicitDefEqProofs (maxSteps := 1000000) only [simpS, ↓condJ_true, ↓condJ_false, ↓reduceIte, Nat.reduceEqDiff, Nat.reduceLT, Nat.reduceLeDiff, reduceCtorEq, Nat.reduceAdd, Nat.reduceSub, noneS, listS, implies_true, forall_const, ne_eq, ho, e1, d1, d2]
        refine hx_call (f := .fn 31) rfl (by rw [hP]; exact hcallD_func (at_calls id c hc _ ho)) ?_
        rintro _ σ2 ⟨rfl, h⟩
        subst σ2
        refine hgo_sound 90 ?_
        simp -implicitDefEqProofs (maxSteps := 1000000) only [simpS, ↓condJ_true, ↓condJ_false, ↓reduceIte, Nat.reduceEqDiff, Nat.reduceLT, Nat.reduceLeDiff, reduceCtorEq, Nat.reduceAdd, Nat.reduceSub, noneS, listS, implies_true, forall_const, ne_eq, ho]
        exact fpost_keep (.inl rfl) rfl trivial (fun _ => trivial) fun hw => rfl
      · have d2 : decide (e > 15) = false := decide_eq_false h2
        have hf : failC c e = { c with at_ := atC c, er := e.toNat } := by unfold failC; rw [if_pos he, if_neg (by omega)]
        obtain ⟨j, rfl⟩ : ∃ j : Nat, e = (j : Int) := ⟨e.toNat, by omega⟩
        rw [hf]
        refine hgo_sound 90 ?_
        simp -implicitDefEqProofs (maxSteps := 1000000) only [simpS, ↓condJ_true, ↓condJ_false, ↓reduceIte, Nat.reduceEqDiff, Nat.reduceLT, Nat.reduceLeDiff, reduceCtorEq, Nat.reduceAdd, Nat.reduceSub, noneS, listS, implies_true, forall_const, ne_eq, ho, e1, d1, d2]
        refine hx_call (f := .fn 31) rfl (by rw [hP]; exact hcallD_func (at_calls id c hc _ ho)) ?_
        rintro _ σ2 ⟨rfl, h⟩
        subst σ2
        refine hgo_sound 90 ?_
        simp -implicitDefEqProofs (maxSteps := 1000000) only [simpS, ↓condJ_true, ↓condJ_false, ↓reduceIte, Nat.reduceEqDiff, Nat.reduceLT, Nat.reduceLeDiff, reduceCtorEq, Nat.reduceAdd, Nat.reduceSub, noneS, listS, implies_true, forall_const, ne_eq, ho]
        exact fpost_keep (.inl rfl) rfl trivial (fun _ => trivial) fun hw => rfl
  · have e1 : ((c.er : Int) != 0) = true := by simp; omega
    have hf : failC c e = c := by unfold failC; rw [if_neg he]
    rw [hf]
    refine hgo_sound 90 ?_
    simp -implicitDefEqProofs (maxSteps := 1000000) only [simpS, ↓condJ_true, ↓condJ_false, ↓reduceIte, Nat.reduceEqDiff, Nat.reduceLT, Nat.reduceLeDiff, reduceCtorEq, Nat.reduceAdd, Nat.reduceSub, noneS, listS, implies_true, forall_const, ne_eq, ho, e1]
    exact fpost_keep (.inr rfl) rfl trivial (fun _ => trivial) fun hw => (put_self ho).symm

abbrev erV (e : Nat) : D := erD (e : Int)

theorem failed_calls (id : Nat) (c : Cu) (σ : St) (ho : σ.obj id = some (.box (encC c))) : HCalls Tryz.prog 33 [.ptr id 0] σ (fun d σ' => d = .tuple [.int .i64 (if c.er = 0 then 0 else (c.at_ : Int)), erV c.er] ∧ σ' = σ) := by
  refine hcalls_body (fn := Tryz.f33) rfl c33 (by simp [h33]) (by simp [h33, Tryz.f33]) ?_
  intro M hP hr hnt hnx hwf hlt
  simp only [h33, argEnv]
  have hnt' : M.nt = 23 := hnt
  by_cases he : c.er = 0
  · have e1 : ((c.er : Int) == 0) = true := by rw [he]; rfl
    have hv : erV c.er = .nili := by unfold erV; rw [he]; rfl
    rw [hv, if_pos he]
    refine hgo_sound 90 ?_
    simp -implicitDefEqProofs (maxSteps := 1000000) only [simpS, ↓condJ_true, ↓condJ_false, ↓reduceIte, Nat.reduceEqDiff, Nat.reduceLT, Nat.reduceLeDiff, reduceCtorEq, Nat.reduceAdd, Nat.reduceSub, noneS, listS, implies_true, forall_const, ne_eq, ho, e1]
    exact fpost_keep (.inr rfl) rfl trivial (fun _ => ⟨trivial, trivial, trivial⟩) fun hw => ⟨rfl, rfl⟩
  · have e1 : ((c.er : Int) == 0) = false := by simp; omega
    have hv : erV c.er = .iface 55 (.int .i64 (c.er : Int)) := by unfold erV; rw [erD_pos (by omega)]
    rw [hv, if_neg he]
    refine hgo_sound 90 ?_
    simp -implicitDefEqProofs (maxSteps := 1000000) only [simpS, ↓condJ_true, ↓condJ_false, ↓reduceIte, Nat.reduceEqDiff, Nat.reduceLT, Nat.reduceLeDiff, reduceCtorEq, Nat.reduceAdd, Nat.reduceSub, noneS, listS, implies_true, forall_const, ne_eq, ho, e1]
    refine hx_drawgo 1 ?_
    simp -implicitDefEqProofs (maxSteps := 100000000) only [drawS, listS, List.getElem?_cons_zero, List.getElem?_cons_succ, List.getElem?_nil, simpS, ↓condJ_true, ↓condJ_false, ↓reduceIte, Nat.reduceEqDiff, Nat.reduceLT, Nat.reduceLeDiff, reduceCtorEq, Nat.reduceAdd, Nat.reduceSub, noneS, listS, implies_true, forall_const, ne_eq, hnt', ho, e1]
    refine hgo_sound 60 ?_
    simp -implicitDefEqProofs (maxSteps := 1000000) only [simpS, ↓condJ_true, ↓condJ_false, ↓reduceIte, Nat.reduceEqDiff, Nat.reduceLT, Nat.reduceLeDiff, reduceCtorEq, Nat.reduceAdd, Nat.reduceSub, noneS, listS, implies_true, forall_const, ne_eq]
    exact fpost_keep (.inr rfl) rfl trivial (fun _ => ⟨trivial, trivial, trivial⟩) fun hw => ⟨rfl, rfl⟩

theorem deep_calls (id : Nat) (c : Cu) (σ : St) (ho : σ.obj id = some (.box (encC c))) : HCalls Tryz.prog 34 [.ptr id 0] σ (fun d σ' => d = .int .i64 (c.dp : Int) ∧ σ' = σ) := by
  refine hcalls_body (fn := Tryz.f34) rfl c34 (by simp [h34]) (by simp [h34, Tryz.f34]) ?_
  intro M hP hr hnt hnx hwf hlt
  simp only [h34, argEnv]
  have hnt' : M.nt = 9 := hnt
  refine hgo_sound 90 ?_
  simp -implicitDefEqProofs (maxSteps := 1000000) only [simpS, ↓condJ_true, ↓condJ_false, ↓reduceIte, Nat.reduceEqDiff, Nat.reduceLT, Nat.reduceLeDiff, reduceCtorEq, Nat.reduceAdd, Nat.reduceSub, noneS, listS, implies_true, forall_const, ne_eq, ho]
  exact fpost_keep (.inr rfl) rfl trivial (fun _ => trivial) fun hw => ⟨rfl, rfl⟩

def downC (c : Cu) : Cu × Bool := if c.er = 0 then (if 200 ≤ c.dp then (failC c 3, false) else ({ c with dp := c.dp + 1 }, true)) else (c, false)

theorem cdown_calls (id : Nat) (c : Cu) (hc : c.ok) (σ : St) (ho : σ.obj id = some (.box (encC c))) : HCalls Tryz.prog 13 [.ptr id 0] σ (fun d σ' => d = .bool (downC c).2 ∧ σ' = σ.put id (.box (encC (downC c).1))) := by
  refine hcalls_body (fn := Tryz.f13) rfl c13 (by simp [h13]) (by simp [h13, Tryz.f13]) ?_
  intro M hP hr hnt hnx hwf hlt
  simp only [h13, argEnv]
  have hnt' : M.nt = 26 := hnt
  by_cases he : c.er = 0
  · have e1 : ((c.er : Int) != 0) = false := by rw [he]; rfl
    by_cases h1 : 200 ≤ c.dp
    · have d1 : decide ((c.dp : Int) ≥ 200) = true := decide_eq_true (by omega)
      have hf : downC c = (failC c 3, false) := by unfold downC; rw [if_pos he, if_pos h1]
      rw [hf]
      refine hgo_sound 90 ?_
      simp -implicitDefEqProofs (maxSteps := 1000000) only [simpS, ↓condJ_true, ↓condJ_false, ↓reduceIte, Nat.reduceEqDiff, Nat.reduceLT, Nat.reduceLeDiff, reduceCtorEq, Nat.reduceAdd, Nat.reduceSub, noneS, listS, implies_true, forall_const, ne_eq, ho, e1, d1]
      refine hx_call (f := .fn 17) rfl (by rw [hP]; exact hcallD_func (fail_calls id c hc 3 _ ho)) ?_
      rintro _ σ2 ⟨rfl, rfl⟩
      refine hgo_sound 60 ?_
      simp -implicitDefEqProofs (maxSteps := 1000000) only [simpS, ↓condJ_true, ↓condJ_false, ↓reduceIte, Nat.reduceEqDiff, Nat.reduceLT, Nat.reduceLeDiff, reduceCtorEq, Nat.reduceAdd, Nat.reduceSub, noneS, listS, implies_true, forall_const, ne_eq]
      exact fpost_keep (.inr rfl) rfl trivial (fun _ => trivial) fun hw => ⟨rfl, rfl⟩
    · have d1 : decide ((c.dp : Int) ≥ 200) = false := decide_eq_false (by omega)
      have hf : downC c = ({ c with dp := c.dp + 1 }, true) := by unfold downC; rw [if_pos he, if_neg h1]
      have hw : IntKind.i64.wrap ((c.dp : Int) + 1) = ((c.dp + 1 : Nat) : Int) := by rw [IntWalk.i64_in _ (by omega)]; rfl
      rw [hf]
      refine hgo_sound 90 ?_
      simp -implicitDefEqProofs (maxSteps := 1000000) only [simpS, ↓condJ_true, ↓condJ_false, ↓reduceIte, Nat.reduceEqDiff, Nat.reduceLT, Nat.reduceLeDiff, reduceCtorEq, Nat.reduceAdd, Nat.reduceSub, noneS, listS, implies_true, forall_const, ne_eq, ho, e1, d1, hw]
      exact fpost_keep (.inr rfl) rfl trivial (fun _ => trivial) fun hw => ⟨rfl, rfl⟩
  · have e1 : ((c.er : Int) != 0) = true := by simp; omega
    have hf : downC c = (c, false) := by unfold downC; rw [if_neg he]
    rw [hf]
    refine hgo_sound 90 ?_
    simp -implicitDefEqProofs (maxSteps := 1000000) only [simpS, ↓condJ_true, ↓condJ_false, ↓reduceIte, Nat.reduceEqDiff, Nat.reduceLT, Nat.reduceLeDiff, reduceCtorEq, Nat.reduceAdd, Nat.reduceSub, noneS, listS, implies_true, forall_const, ne_eq, ho, e1]
    exact fpost_keep (.inr rfl) rfl trivial (fun _ => trivial) fun hw => ⟨rfl, (put_self ho).symm⟩

def upC (c : Cu) : Cu := { c with dp := c.dp - 1 }

theorem cup_calls (id : Nat) (c : Cu) (hd : c.dp ≤ 1000000) (σ : St) (ho : σ.obj id = some (.box (encC c))) : HCalls Tryz.prog 15 [.ptr id 0] σ (fun _ σ' => σ' = σ.put id (.box (encC (upC c)))) := by
  refine hcalls_body (fn := Tryz.f15) rfl c15 (by simp [h15]) (by simp [h15, Tryz.f15]) ?_
  intro M hP hr hnt hnx hwf hlt
  simp only [h15, argEnv]
  have hnt' : M.nt = 13 := hnt
  have hw : IntKind.i64.wrap ((c.dp : Int) - 1) = (c.dp : Int) - 1 := by rw [IntWalk.i64_in _ (by omega)]
  have hm : (if (c.dp : Int) - 1 > 0 then (c.dp : Int) - 1 else 0) = ((c.dp - 1 : Nat) : Int) := by split <;> omega
  refine hgo_sound 90 ?_
  simp -implicitDefEqProofs (maxSteps := 1000000) only [simpS, ↓condJ_true, ↓condJ_false, ↓reduceIte, Nat.reduceEqDiff, Nat.reduceLT, Nat.reduceLeDiff, reduceCtorEq, Nat.reduceAdd, Nat.reduceSub, noneS, listS, implies_true, forall_const, ne_eq, ho, hw, hm]

  exact fpost_keep (.inl rfl) rfl trivial (fun _ => trivial) fun hw => rfl

def endC (c : Cu) : ByteArray := if c.er = 0 ∧ leftC c = 0 then c.s.extract c.la c.s.size else ⟨#[]⟩

theorem end_calls (id : Nat) (c : Cu) (hc : c.ok) (σ : St) (ho : σ.obj id = some (.box (encC c))) : HCalls Tryz.prog 36 [.ptr id 0] σ (fun d σ' => d = .str (endC c) ∧ σ' = σ) := by
  refine hcalls_body (fn := Tryz.f36) rfl c36 (by simp [h36]) (by simp [h36, Tryz.f36]) ?_
  intro M hP hr hnt hnx hwf hlt
  simp only [h36, argEnv]
  have hnt' : M.nt = 26 := hnt
  by_cases he : c.er = 0
  · have e1 : ((c.er : Int) != 0) = false := by rw [he]; rfl
    by_cases h1 : leftC c = 0
    · have d1 : decide ((leftC c : Int) > 0) = false := decide_eq_false (by omega)
      have hf : endC c = c.s.extract c.la c.s.size := by unfold endC; rw [if_pos ⟨he, h1⟩]
      have hla := hc.last
      have p1 : (c.la : Int) ≤ (c.s.size : Int) := by omega
      rw [hf]
      refine hgo_sound 90 ?_
      simp -implicitDefEqProofs (maxSteps := 1000000) only [simpS, ↓condJ_true, ↓condJ_false, ↓reduceIte, Nat.reduceEqDiff, Nat.reduceLT, Nat.reduceLeDiff, reduceCtorEq, Nat.reduceAdd, Nat.reduceSub, noneS, listS, implies_true, forall_const, ne_eq, ho, e1]
      refine hx_call (f := .fn 20) rfl (by rw [hP]; exact hcallD_func (left_calls id c hc _ ho)) ?_
      rintro _ σ2 ⟨rfl, h⟩
      subst σ2
      refine hgo_sound 90 ?_
      simp -implicitDefEqProofs (maxSteps := 1000000) only [simpS, ↓condJ_true, ↓condJ_false, ↓reduceIte, Nat.reduceEqDiff, Nat.reduceLT, Nat.reduceLeDiff, reduceCtorEq, Nat.reduceAdd, Nat.reduceSub, noneS, listS, implies_true, forall_const, ne_eq, ho, d1]
      refine hx_drawgo 1 ?_
      simp -implicitDefEqProofs (maxSteps := 100000000) only [drawS, listS, List.getElem?_cons_zero, List.getElem?_cons_succ, List.getElem?_nil, simpS, ↓condJ_true, ↓condJ_false, ↓reduceIte, Nat.reduceEqDiff, Nat.reduceLT, Nat.reduceLeDiff, reduceCtorEq, Nat.reduceAdd, Nat.reduceSub, noneS, listS, implies_true, forall_const, ne_eq, hnt', ho, p1, Int.toNat_natCast, Int.natCast_nonneg]
      refine hgo_sound 60 ?_
      simp -implicitDefEqProofs (maxSteps := 1000000) only [simpS, ↓condJ_true, ↓condJ_false, ↓reduceIte, Nat.reduceEqDiff, Nat.reduceLT, Nat.reduceLeDiff, reduceCtorEq, Nat.reduceAdd, Nat.reduceSub, noneS, listS, implies_true, forall_const, ne_eq]
      exact fpost_keep (.inr rfl) rfl trivial (fun _ => trivial) fun hw => ⟨rfl, rfl⟩
    · have d1 : decide ((leftC c : Int) > 0) = true := decide_eq_true (by omega)
      have hf : endC c = ⟨#[]⟩ := by unfold endC; rw [if_neg (fun h => h1 h.2)]
      rw [hf]
      refine hgo_sound 90 ?_
      simp -implicitDefEqProofs (maxSteps := 1000000) only [simpS, ↓condJ_true, ↓condJ_false, ↓reduceIte, Nat.reduceEqDiff, Nat.reduceLT, Nat.reduceLeDiff, reduceCtorEq, Nat.reduceAdd, Nat.reduceSub, noneS, listS, implies_true, forall_const, ne_eq, ho, e1]
      refine hx_call (f := .fn 20) rfl (by rw [hP]; exact hcallD_func (left_calls id c hc _ ho)) ?_
      rintro _ σ2 ⟨rfl, h⟩
      subst σ2
      refine hgo_sound 90 ?_
      simp -implicitDefEqProofs (maxSteps := 1000000) only [simpS, ↓condJ_true, ↓condJ_false, ↓reduceIte, Nat.reduceEqDiff, Nat.reduceLT, Nat.reduceLeDiff, reduceCtorEq, Nat.reduceAdd, Nat.reduceSub, noneS, listS, implies_true, forall_const, ne_eq, ho, d1]
      exact fpost_keep (.inr rfl) rfl trivial (fun _ => trivial) fun hw => ⟨rfl, rfl⟩
  · have e1 : ((c.er : Int) != 0) = true := by simp; omega
    have hf : endC c = ⟨#[]⟩ := by unfold endC; rw [if_neg (fun h => he h.1)]
    rw [hf]
    refine hgo_sound 90 ?_
    simp -implicitDefEqProofs (maxSteps := 1000000) only [simpS, ↓condJ_true, ↓condJ_false, ↓reduceIte, Nat.reduceEqDiff, Nat.reduceLT, Nat.reduceLeDiff, reduceCtorEq, Nat.reduceAdd, Nat.reduceSub, noneS, listS, implies_true, forall_const, ne_eq, ho, e1]
    exact fpost_keep (.inr rfl) rfl trivial (fun _ => trivial) fun hw => ⟨rfl, rfl⟩

end Go.Hl
set_option linter.unusedSectionVars false
set_option linter.unusedVariables false
set_option linter.unusedSimpArgs false
set_option maxRecDepth 100000
namespace Go.Hl
open Go Go.Proofs Go.RowKit

theorem encC_lt (c : Cu) (n : Nat) : ltL n (encC c) := ⟨trivial, ⟨trivial, encTk_lt _ _⟩, trivial, trivial, trivial, trivial, trivial, trivial⟩

def drS (S0 S1 S2 : St) (a b : Nat) (L : Nat → Bool) : St := if L b then S2 else if L a then S1 else S0
theorem drS_start (S0 S1 S2 : St) (a b : Nat) : drS S0 S1 S2 a b (fun _ => false) = S0 := rfl
theorem drS_upd {S0 S1 S2 : St} {a b : Nat} {L : Nat → Bool} {i : Nat} (h1 : a ≠ i) (h2 : b ≠ i) : drS S0 S1 S2 a b (upd L i true) = drS S0 S1 S2 a b L := by
  simp only [drS, upd, if_neg h1, if_neg h2]
theorem drS_a {S0 S1 S2 : St} {a b : Nat} {L : Nat → Bool} (hb : L b = false) (hab : b ≠ a) : drS S0 S1 S2 a b (upd L a true) = S1 := by
  simp [drS, upd, hab, hb]
theorem drS_b {S0 S1 S2 : St} {a b : Nat} {L : Nat → Bool} : drS S0 S1 S2 a b (upd L b true) = S2 := by
  simp [drS, upd]
theorem drS_0 {S0 S1 S2 : St} {a b : Nat} {L : Nat → Bool} (ha : L a = false) (hb : L b = false) : drS S0 S1 S2 a b L = S0 := by
  simp [drS, ha, hb]
theorem drS_1 {S0 S1 S2 : St} {a b : Nat} {L : Nat → Bool} (ha : L a = true) (hb : L b = false) : drS S0 S1 S2 a b L = S1 := by
  simp [drS, ha, hb]
theorem drS_all {S0 S1 S2 : St} {a b : Nat} {L : Nat → Bool} {o : Option Ob} {id : Nat} (h0 : S0.obj id = o) (h1 : S1.obj id = o) (h2 : S2.obj id = o) : (drS S0 S1 S2 a b L).obj id = o := by
  unfold drS
  split
  · exact h2
  · split
    · exact h1
    · exact h0

def zNd : Nd := .mk 0 ⟨#[]⟩ ⟨#[]⟩ 0 []

def takeC (c : Cu) (w : Bool) : Cu × Nd :=
  if w = true ∧ leftC c ≠ 0 then ({ c with n := c.n + 1, la := (c.L.getD c.n ⟨0, 0, 0⟩).t }, .mk 1 (c.s.extract c.la (c.L.getD c.n ⟨0, 0, 0⟩).f) (textT c.s (c.L.getD c.n ⟨0, 0, 0⟩)) ((c.L.getD c.n ⟨0, 0, 0⟩).f : Int) [])
  else (failC c 2, zNd)

set_option maxHeartbeats 4000000 in
theorem take_calls (id : Nat) (c : Cu) (hc : c.ok) (w : Bool) (σ : St) (ho : σ.obj id = some (.box (encC c))) : HCalls Tryz.prog 24 [.ptr id 0, .bool w] σ (fun d σ' => d = .agg (encN (takeC c w).2) ∧ σ' = σ.put id (.box (encC (takeC c w).1))) := by
  refine hcalls_body (fn := Tryz.f24) rfl c24 (by simp [h24]) (by simp [h24, Tryz.f24]) ?_
  intro M hP hr hnt hnx hwf hlt
  simp only [h24, argEnv]
  have hnt' : M.nt = 61 := hnt
  have hid := (hwf.obj _ _ ho).1
  have hn0 : ¬ id = σ.next := by omega
  have hn0' : ¬ σ.next = id := by omega
  have hn1 : ¬ id = σ.next + 1 := by omega
  have hn1' : ¬ σ.next + 1 = id := by omega
  have hn2 : ¬ id = σ.next + 2 := by omega
  have hn2' : ¬ σ.next + 2 = id := by omega
  have hwf2 : ∀ c', (σ.put id (.box (encC c'))).wf := fun c' => hwf.put hid (encC_lt c' _)
  cases w with
  | false =>
    have ht : takeC c false = (failC c 2, zNd) := by unfold takeC; rw [if_neg (fun h => by cases h.1)]
    refine hgo_sound 60 ?_
    simp -implicitDefEqProofs (maxSteps := 1000000) only [simpS, ↓condJ_true, ↓condJ_false, ↓reduceIte, Nat.reduceEqDiff, Nat.reduceLT, Nat.reduceLeDiff, reduceCtorEq, Nat.reduceAdd, Nat.reduceSub, noneS, listS, implies_true, forall_const, ne_eq]
    refine hx_call (f := .fn 17) rfl (by rw [hP]; exact hcallD_func (fail_calls id c hc 2 _ (by simp -implicitDefEqProofs (maxSteps := 1000000) only [simpS, ↓condJ_true, ↓condJ_false, ↓reduceIte, Nat.reduceEqDiff, Nat.reduceLT, Nat.reduceLeDiff, reduceCtorEq, Nat.reduceAdd, Nat.reduceSub, noneS, listS, implies_true, forall_const, ne_eq, hn0]; exact ho))) ?_
    rintro _ σ2 ⟨rfl, rfl⟩
    refine hgo_sound 60 ?_
    simp -implicitDefEqProofs (maxSteps := 1000000) only [simpS, ↓condJ_true, ↓condJ_false, ↓reduceIte, Nat.reduceEqDiff, Nat.reduceLT, Nat.reduceLeDiff, reduceCtorEq, Nat.reduceAdd, Nat.reduceSub, noneS, listS, implies_true, forall_const, ne_eq, hn0, hn0']
    refine fpost_wk (ds := [.agg [.int .i64 0, .str ⟨#[]⟩, .str ⟨#[]⟩, .int .i64 0, .slice .nil 0 []]]) (d := .agg (encN zNd)) (.agg (.cons (.refl _) (.cons (.refl _) (.cons (.refl _) (.cons (.refl _) (.cons .nil .nil)))))) (σ0 := σ.put id (.box (encC (failC c 2)))) (.inr rfl) (by rw [hnx]; exact Nat.le_refl _) (hwf2 _) (((Ext.refl _).new _).sub (hwf2 _)) (resD_cellS rfl (by simp [St.obj_new, St.next_put]; rfl) rfl resD_nil) ⟨by simp, trivial⟩ ⟨trivial, trivial, trivial, trivial, ⟨trivial, trivial⟩, trivial⟩ ⟨by rw [ht], by rw [ht]⟩
  | true =>
    refine hgo_sound 60 ?_
    simp -implicitDefEqProofs (maxSteps := 1000000) only [simpS, ↓condJ_true, ↓condJ_false, ↓reduceIte, Nat.reduceEqDiff, Nat.reduceLT, Nat.reduceLeDiff, reduceCtorEq, Nat.reduceAdd, Nat.reduceSub, noneS, listS, implies_true, forall_const, ne_eq]
    refine hx_call (f := .fn 20) rfl (by rw [hP]; exact hcallD_func (left_calls id c hc _ (by simp -implicitDefEqProofs (maxSteps := 1000000) only [simpS, ↓condJ_true, ↓condJ_false, ↓reduceIte, Nat.reduceEqDiff, Nat.reduceLT, Nat.reduceLeDiff, reduceCtorEq, Nat.reduceAdd, Nat.reduceSub, noneS, listS, implies_true, forall_const, ne_eq, hn0]; exact ho))) ?_
    rintro _ σ2 ⟨rfl, h⟩
    subst σ2
    by_cases hl : leftC c = 0
    · have e0 : ((leftC c : Int) == 0) = true := by rw [hl]; rfl
      refine hgo_sound 60 ?_
      simp -implicitDefEqProofs (maxSteps := 1000000) only [simpS, ↓condJ_true, ↓condJ_false, ↓reduceIte, Nat.reduceEqDiff, Nat.reduceLT, Nat.reduceLeDiff, reduceCtorEq, Nat.reduceAdd, Nat.reduceSub, noneS, listS, implies_true, forall_const, ne_eq, e0]
      refine hx_call (f := .fn 17) rfl (by rw [hP]; exact hcallD_func (fail_calls id c hc 2 _ (by simp -implicitDefEqProofs (maxSteps := 1000000) only [simpS, ↓condJ_true, ↓condJ_false, ↓reduceIte, Nat.reduceEqDiff, Nat.reduceLT, Nat.reduceLeDiff, reduceCtorEq, Nat.reduceAdd, Nat.reduceSub, noneS, listS, implies_true, forall_const, ne_eq, hn0]; exact ho))) ?_
      rintro _ σ2 ⟨rfl, rfl⟩
      refine hgo_sound 60 ?_
      simp -implicitDefEqProofs (maxSteps := 1000000) only [simpS, ↓condJ_true, ↓condJ_false, ↓reduceIte, Nat.reduceEqDiff, Nat.reduceLT, Nat.reduceLeDiff, reduceCtorEq, Nat.reduceAdd, Nat.reduceSub, noneS, listS, implies_true, forall_const, ne_eq, hn0, hn0']
      have ht : takeC c true = (failC c 2, zNd) := by unfold takeC; rw [if_neg (fun h => h.2 hl)]
      refine fpost_wk (ds := [.agg [.int .i64 0, .str ⟨#[]⟩, .str ⟨#[]⟩, .int .i64 0, .slice .nil 0 []]]) (d := .agg (encN zNd)) (.agg (.cons (.refl _) (.cons (.refl _) (.cons (.refl _) (.cons (.refl _) (.cons .nil .nil)))))) (σ0 := σ.put id (.box (encC (failC c 2)))) (.inr rfl) (by rw [hnx]; exact Nat.le_refl _) (hwf2 _) (((Ext.refl _).new _).sub (hwf2 _)) (resD_cellS rfl (by simp [St.obj_new, St.next_put]; rfl) rfl resD_nil) ⟨by simp, trivial⟩ ⟨trivial, trivial, trivial, trivial, ⟨trivial, trivial⟩, trivial⟩ ⟨by rw [ht], by rw [ht]⟩
    · have e0 : ((leftC c : Int) == 0) = false := by simp; omega
      obtain ⟨he, hj⟩ := leftC_lt (c := c) (j := 0) (by omega)
      have hg := encTk_get c.L c.n hj
      have hlt : (c.n : Int) < (c.L.length : Int) := by omega
      have hgd : c.L.getD c.n ⟨0, 0, 0⟩ = c.L[c.n] := by simp [List.getD, show c.n < c.L.length from hj]
      have hx := hc.in_ c.L[c.n] (List.getElem_mem _)
      have hlf := hc.lastf c.L[c.n] (by simp [show c.n < c.L.length from hj])
      have ht : takeC c true = ({ c with n := c.n + 1, la := (c.L[c.n]).t }, .mk 1 (c.s.extract c.la (c.L[c.n]).f) (textT c.s (c.L[c.n])) ((c.L[c.n]).f : Int) []) := by unfold takeC; rw [if_pos ⟨rfl, hl⟩, hgd]
      generalize c.L[c.n] = x at *
      have p1 : (x.f : Int) ≤ (c.s.size : Int) := by omega
      have p2 : (c.la : Int) ≤ (x.f : Int) := by omega
      refine hgo_sound 60 ?_
      simp -implicitDefEqProofs (maxSteps := 1000000) only [simpS, ↓condJ_true, ↓condJ_false, ↓reduceIte, Nat.reduceEqDiff, Nat.reduceLT, Nat.reduceLeDiff, reduceCtorEq, Nat.reduceAdd, Nat.reduceSub, noneS, listS, implies_true, forall_const, ne_eq, e0]
      refine hx_drawgo 3 ?_
      simp -implicitDefEqProofs (maxSteps := 100000000) only [drawS, listS, List.getElem?_cons_zero, List.getElem?_cons_succ, List.getElem?_nil, simpS, ↓condJ_true, ↓condJ_false, ↓reduceIte, Nat.reduceEqDiff, Nat.reduceLT, Nat.reduceLeDiff, reduceCtorEq, Nat.reduceAdd, Nat.reduceSub, noneS, listS, implies_true, forall_const, ne_eq, hnt', ho, hn0, hn1, hn0', hn1', encTk_length, hg, hlt, Int.toNat_natCast, Int.natCast_nonneg]
      refine hgo_sound 60 ?_
      simp -implicitDefEqProofs (maxSteps := 1000000) only [simpS, ↓condJ_true, ↓condJ_false, ↓reduceIte, Nat.reduceEqDiff, Nat.reduceLT, Nat.reduceLeDiff, reduceCtorEq, Nat.reduceAdd, Nat.reduceSub, noneS, listS, implies_true, forall_const, ne_eq]
      refine hx_drawK [.ptr id 0, .ptr id 0, .ptr id 0, .str c.s, .ptr id 0, .ptr id 0, .ptr id 3, .int .i64 (c.la : Int), .ptr (σ.next + 1) 1, .int .i64 (x.f : Int), .str (c.s.extract c.la x.f), .agg (encK3 x), .ptr id 0, .ptr id 0, .ptr id 0, .str c.s, .str (textT c.s x), .ptr (σ.next + 1) 1, .int .i64 (x.f : Int), .agg (encN (.mk 1 (c.s.extract c.la x.f) (textT c.s x) (x.f : Int) [])), .ptr (σ.next + 2) 0, .undef]
        (drS ((σ.new (.box [.int .i64 0, .str ⟨#[]⟩, .str ⟨#[]⟩, .int .i64 0, .slice .nil 0 []])).new (.box (encK3 x))) (((σ.new (.box [.int .i64 0, .str ⟨#[]⟩, .str ⟨#[]⟩, .int .i64 0, .slice .nil 0 []])).new (.box (encK3 x))).new (.box [.int .i64 0, .str ⟨#[]⟩, .str ⟨#[]⟩, .int .i64 0, .slice .nil 0 []])) (((σ.new (.box [.int .i64 0, .str ⟨#[]⟩, .str ⟨#[]⟩, .int .i64 0, .slice .nil 0 []])).new (.box (encK3 x))).new (.box (encN (.mk 1 (c.s.extract c.la x.f) (textT c.s x) (x.f : Int) [])))) 20 21)
        (by rw [hnt']; rfl) (drS_start _ _ _ _ _) ?_ ?_
      · intro L hC
        have o0 := drS_all (L := L) (a := 20) (b := 21) (S0 := (σ.new (.box [.int .i64 0, .str ⟨#[]⟩, .str ⟨#[]⟩, .int .i64 0, .slice .nil 0 []])).new (.box (encK3 x))) (S1 := ((σ.new (.box [.int .i64 0, .str ⟨#[]⟩, .str ⟨#[]⟩, .int .i64 0, .slice .nil 0 []])).new (.box (encK3 x))).new (.box [.int .i64 0, .str ⟨#[]⟩, .str ⟨#[]⟩, .int .i64 0, .slice .nil 0 []])) (S2 := ((σ.new (.box [.int .i64 0, .str ⟨#[]⟩, .str ⟨#[]⟩, .int .i64 0, .slice .nil 0 []])).new (.box (encK3 x))).new (.box (encN (.mk 1 (c.s.extract c.la x.f) (textT c.s x) (x.f : Int) [])))) (o := some (.box (encC c))) (id := id)
          (by simp [St.obj_new, St.next_new, hn0, hn1, ho]) (by simp [St.obj_new, St.next_new, hn0, hn1, hn2, ho]) (by simp [St.obj_new, St.next_new, hn0, hn1, hn2, ho])
        have o1 := drS_all (L := L) (a := 20) (b := 21) (S0 := (σ.new (.box [.int .i64 0, .str ⟨#[]⟩, .str ⟨#[]⟩, .int .i64 0, .slice .nil 0 []])).new (.box (encK3 x))) (S1 := ((σ.new (.box [.int .i64 0, .str ⟨#[]⟩, .str ⟨#[]⟩, .int .i64 0, .slice .nil 0 []])).new (.box (encK3 x))).new (.box [.int .i64 0, .str ⟨#[]⟩, .str ⟨#[]⟩, .int .i64 0, .slice .nil 0 []])) (S2 := ((σ.new (.box [.int .i64 0, .str ⟨#[]⟩, .str ⟨#[]⟩, .int .i64 0, .slice .nil 0 []])).new (.box (encK3 x))).new (.box (encN (.mk 1 (c.s.extract c.la x.f) (textT c.s x) (x.f : Int) [])))) (o := some (.box (encK3 x))) (id := σ.next + 1)
          (by simp [St.obj_new, St.next_new]) (by simp [St.obj_new, St.next_new]) (by simp [St.obj_new, St.next_new])
        simp only [allD_nil, allD_cons]
        refine ⟨fun hi ha => ?_, fun hi ha => ?_, fun hi ha => ?_, fun hi ha => ?_, fun hi ha => ?_, fun hi ha => ?_, fun hi ha => ?_, fun hi ha => ?_, fun hi ha => ?_, fun hi ha => ?_, fun hi ha => ?_, fun hi ha => ?_, fun hi ha => ?_, fun hi ha => ?_, fun hi ha => ?_, fun hi ha => ?_, fun hi ha => ?_, fun hi ha => ?_, fun hi ha => ?_, fun hi ha => ?_, fun hi ha => ?_, fun hi ha => ?_, trivial⟩
        · simp -implicitDefEqProofs (maxSteps := 3000000) only [dsetS, listS, simpS, ↓condJ_true, ↓condJ_false, ↓reduceIte, Nat.reduceEqDiff, Nat.reduceLT, Nat.reduceLeDiff, reduceCtorEq, Nat.reduceAdd, Nat.reduceSub, noneS, listS, implies_true, forall_const, ne_eq, hnt', o0, o1, valV, List.getD_cons_zero, List.getD_cons_succ, p1, p2, Int.toNat_natCast, Int.natCast_nonneg]
          first | exact (drS_upd (by decide) (by decide)).symm | exact ⟨rfl, (drS_upd (by decide) (by decide)).symm⟩
        · simp -implicitDefEqProofs (maxSteps := 3000000) only [dsetS, listS, simpS, ↓condJ_true, ↓condJ_false, ↓reduceIte, Nat.reduceEqDiff, Nat.reduceLT, Nat.reduceLeDiff, reduceCtorEq, Nat.reduceAdd, Nat.reduceSub, noneS, listS, implies_true, forall_const, ne_eq, hnt', o0, o1, valV, List.getD_cons_zero, List.getD_cons_succ, p1, p2, Int.toNat_natCast, Int.natCast_nonneg]
          first | exact (drS_upd (by decide) (by decide)).symm | exact ⟨rfl, (drS_upd (by decide) (by decide)).symm⟩
        · simp -implicitDefEqProofs (maxSteps := 3000000) only [dsetS, listS, simpS, ↓condJ_true, ↓condJ_false, ↓reduceIte, Nat.reduceEqDiff, Nat.reduceLT, Nat.reduceLeDiff, reduceCtorEq, Nat.reduceAdd, Nat.reduceSub, noneS, listS, implies_true, forall_const, ne_eq, hnt', o0, o1, valV, List.getD_cons_zero, List.getD_cons_succ, p1, p2, Int.toNat_natCast, Int.natCast_nonneg]
          first | exact (drS_upd (by decide) (by decide)).symm | exact ⟨rfl, (drS_upd (by decide) (by decide)).symm⟩
        · simp -implicitDefEqProofs (maxSteps := 3000000) only [dsetS, listS, simpS, ↓condJ_true, ↓condJ_false, ↓reduceIte, Nat.reduceEqDiff, Nat.reduceLT, Nat.reduceLeDiff, reduceCtorEq, Nat.reduceAdd, Nat.reduceSub, noneS, listS, implies_true, forall_const, ne_eq, hnt', o0, o1, valV, List.getD_cons_zero, List.getD_cons_succ, p1, p2, Int.toNat_natCast, Int.natCast_nonneg]
          first | exact (drS_upd (by decide) (by decide)).symm | exact ⟨rfl, (drS_upd (by decide) (by decide)).symm⟩
        · simp -implicitDefEqProofs (maxSteps := 3000000) only [dsetS, listS, simpS, ↓condJ_true, ↓condJ_false, ↓reduceIte, Nat.reduceEqDiff, Nat.reduceLT, Nat.reduceLeDiff, reduceCtorEq, Nat.reduceAdd, Nat.reduceSub, noneS, listS, implies_true, forall_const, ne_eq, hnt', o0, o1, valV, List.getD_cons_zero, List.getD_cons_succ, p1, p2, Int.toNat_natCast, Int.natCast_nonneg]
          first | exact (drS_upd (by decide) (by decide)).symm | exact ⟨rfl, (drS_upd (by decide) (by decide)).symm⟩
        · simp -implicitDefEqProofs (maxSteps := 3000000) only [dsetS, listS, simpS, ↓condJ_true, ↓condJ_false, ↓reduceIte, Nat.reduceEqDiff, Nat.reduceLT, Nat.reduceLeDiff, reduceCtorEq, Nat.reduceAdd, Nat.reduceSub, noneS, listS, implies_true, forall_const, ne_eq, hnt', o0, o1, valV, List.getD_cons_zero, List.getD_cons_succ, p1, p2, Int.toNat_natCast, Int.natCast_nonneg]
          first | exact (drS_upd (by decide) (by decide)).symm | exact ⟨rfl, (drS_upd (by decide) (by decide)).symm⟩
        · simp -implicitDefEqProofs (maxSteps := 3000000) only [dsetS, listS, simpS, ↓condJ_true, ↓condJ_false, ↓reduceIte, Nat.reduceEqDiff, Nat.reduceLT, Nat.reduceLeDiff, reduceCtorEq, Nat.reduceAdd, Nat.reduceSub, noneS, listS, implies_true, forall_const, ne_eq, hnt', o0, o1, valV, List.getD_cons_zero, List.getD_cons_succ, p1, p2, Int.toNat_natCast, Int.natCast_nonneg]
          first | exact (drS_upd (by decide) (by decide)).symm | exact ⟨rfl, (drS_upd (by decide) (by decide)).symm⟩
        · simp -implicitDefEqProofs (maxSteps := 3000000) only [dsetS, listS, simpS, ↓condJ_true, ↓condJ_false, ↓reduceIte, Nat.reduceEqDiff, Nat.reduceLT, Nat.reduceLeDiff, reduceCtorEq, Nat.reduceAdd, Nat.reduceSub, noneS, listS, implies_true, forall_const, ne_eq, hnt', o0, o1, valV, List.getD_cons_zero, List.getD_cons_succ, p1, p2, Int.toNat_natCast, Int.natCast_nonneg]
          first | exact (drS_upd (by decide) (by decide)).symm | exact ⟨rfl, (drS_upd (by decide) (by decide)).symm⟩
        · simp -implicitDefEqProofs (maxSteps := 3000000) only [dsetS, listS, simpS, ↓condJ_true, ↓condJ_false, ↓reduceIte, Nat.reduceEqDiff, Nat.reduceLT, Nat.reduceLeDiff, reduceCtorEq, Nat.reduceAdd, Nat.reduceSub, noneS, listS, implies_true, forall_const, ne_eq, hnt', o0, o1, valV, List.getD_cons_zero, List.getD_cons_succ, p1, p2, Int.toNat_natCast, Int.natCast_nonneg]
          first | exact (drS_upd (by decide) (by decide)).symm | exact ⟨rfl, (drS_upd (by decide) (by decide)).symm⟩
        · simp -implicitDefEqProofs (maxSteps := 3000000) only [dsetS, listS, simpS, ↓condJ_true, ↓condJ_false, ↓reduceIte, Nat.reduceEqDiff, Nat.reduceLT, Nat.reduceLeDiff, reduceCtorEq, Nat.reduceAdd, Nat.reduceSub, noneS, listS, implies_true, forall_const, ne_eq, hnt', o0, o1, valV, List.getD_cons_zero, List.getD_cons_succ, p1, p2, Int.toNat_natCast, Int.natCast_nonneg]
          first | exact (drS_upd (by decide) (by decide)).symm | exact ⟨rfl, (drS_upd (by decide) (by decide)).symm⟩
        · simp -implicitDefEqProofs (maxSteps := 3000000) only [dsetS, listS, simpS, ↓condJ_true, ↓condJ_false, ↓reduceIte, Nat.reduceEqDiff, Nat.reduceLT, Nat.reduceLeDiff, reduceCtorEq, Nat.reduceAdd, Nat.reduceSub, noneS, listS, implies_true, forall_const, ne_eq, hnt', o0, o1, valV, List.getD_cons_zero, List.getD_cons_succ, p1, p2, Int.toNat_natCast, Int.natCast_nonneg]
          first | exact (drS_upd (by decide) (by decide)).symm | exact ⟨rfl, (drS_upd (by decide) (by decide)).symm⟩
        · simp -implicitDefEqProofs (maxSteps := 3000000) only [dsetS, listS, simpS, ↓condJ_true, ↓condJ_false, ↓reduceIte, Nat.reduceEqDiff, Nat.reduceLT, Nat.reduceLeDiff, reduceCtorEq, Nat.reduceAdd, Nat.reduceSub, noneS, listS, implies_true, forall_const, ne_eq, hnt', o0, o1, valV, List.getD_cons_zero, List.getD_cons_succ, p1, p2, Int.toNat_natCast, Int.natCast_nonneg]
          first | exact (drS_upd (by decide) (by decide)).symm | exact ⟨rfl, (drS_upd (by decide) (by decide)).symm⟩
        · simp -implicitDefEqProofs (maxSteps := 3000000) only [dsetS, listS, simpS, ↓condJ_true, ↓condJ_false, ↓reduceIte, Nat.reduceEqDiff, Nat.reduceLT, Nat.reduceLeDiff, reduceCtorEq, Nat.reduceAdd, Nat.reduceSub, noneS, listS, implies_true, forall_const, ne_eq, hnt', o0, o1, valV, List.getD_cons_zero, List.getD_cons_succ, p1, p2, Int.toNat_natCast, Int.natCast_nonneg]
          first | exact (drS_upd (by decide) (by decide)).symm | exact ⟨rfl, (drS_upd (by decide) (by decide)).symm⟩
        · simp -implicitDefEqProofs (maxSteps := 3000000) only [dsetS, listS, simpS, ↓condJ_true, ↓condJ_false, ↓reduceIte, Nat.reduceEqDiff, Nat.reduceLT, Nat.reduceLeDiff, reduceCtorEq, Nat.reduceAdd, Nat.reduceSub, noneS, listS, implies_true, forall_const, ne_eq, hnt', o0, o1, valV, List.getD_cons_zero, List.getD_cons_succ, p1, p2, Int.toNat_natCast, Int.natCast_nonneg]
          first | exact (drS_upd (by decide) (by decide)).symm | exact ⟨rfl, (drS_upd (by decide) (by decide)).symm⟩
        · simp -implicitDefEqProofs (maxSteps := 3000000) only [dsetS, listS, simpS, ↓condJ_true, ↓condJ_false, ↓reduceIte, Nat.reduceEqDiff, Nat.reduceLT, Nat.reduceLeDiff, reduceCtorEq, Nat.reduceAdd, Nat.reduceSub, noneS, listS, implies_true, forall_const, ne_eq, hnt', o0, o1, valV, List.getD_cons_zero, List.getD_cons_succ, p1, p2, Int.toNat_natCast, Int.natCast_nonneg]
          first | exact (drS_upd (by decide) (by decide)).symm | exact ⟨rfl, (drS_upd (by decide) (by decide)).symm⟩
        · simp -implicitDefEqProofs (maxSteps := 3000000) only [dsetS, listS, simpS, ↓condJ_true, ↓condJ_false, ↓reduceIte, Nat.reduceEqDiff, Nat.reduceLT, Nat.reduceLeDiff, reduceCtorEq, Nat.reduceAdd, Nat.reduceSub, noneS, listS, implies_true, forall_const, ne_eq, hnt', o0, o1, valV, List.getD_cons_zero, List.getD_cons_succ, p1, p2, Int.toNat_natCast, Int.natCast_nonneg]
          first | exact (drS_upd (by decide) (by decide)).symm | exact ⟨rfl, (drS_upd (by decide) (by decide)).symm⟩
        · simp -implicitDefEqProofs (maxSteps := 3000000) only [dsetS, listS, simpS, ↓condJ_true, ↓condJ_false, ↓reduceIte, Nat.reduceEqDiff, Nat.reduceLT, Nat.reduceLeDiff, reduceCtorEq, Nat.reduceAdd, Nat.reduceSub, noneS, listS, implies_true, forall_const, ne_eq, hnt', o0, o1, valV, List.getD_cons_zero, List.getD_cons_succ, p1, p2, Int.toNat_natCast, Int.natCast_nonneg]
          refine ⟨_, _, _, rfl, by rw [hP]; exact hcallD_func (ttext_calls c.s x hx.1 hx.2 _), ?_⟩
          rintro _ σ2 ⟨rfl, h⟩
          subst σ2
          first | exact (drS_upd (by decide) (by decide)).symm | exact ⟨rfl, (drS_upd (by decide) (by decide)).symm⟩
        · simp -implicitDefEqProofs (maxSteps := 3000000) only [dsetS, listS, simpS, ↓condJ_true, ↓condJ_false, ↓reduceIte, Nat.reduceEqDiff, Nat.reduceLT, Nat.reduceLeDiff, reduceCtorEq, Nat.reduceAdd, Nat.reduceSub, noneS, listS, implies_true, forall_const, ne_eq, hnt', o0, o1, valV, List.getD_cons_zero, List.getD_cons_succ, p1, p2, Int.toNat_natCast, Int.natCast_nonneg]
          first | exact (drS_upd (by decide) (by decide)).symm | exact ⟨rfl, (drS_upd (by decide) (by decide)).symm⟩
        · simp -implicitDefEqProofs (maxSteps := 3000000) only [dsetS, listS, simpS, ↓condJ_true, ↓condJ_false, ↓reduceIte, Nat.reduceEqDiff, Nat.reduceLT, Nat.reduceLeDiff, reduceCtorEq, Nat.reduceAdd, Nat.reduceSub, noneS, listS, implies_true, forall_const, ne_eq, hnt', o0, o1, valV, List.getD_cons_zero, List.getD_cons_succ, p1, p2, Int.toNat_natCast, Int.natCast_nonneg]
          first | exact (drS_upd (by decide) (by decide)).symm | exact ⟨rfl, (drS_upd (by decide) (by decide)).symm⟩
        · simp -implicitDefEqProofs (maxSteps := 3000000) only [dsetS, listS, simpS, ↓condJ_true, ↓condJ_false, ↓reduceIte, Nat.reduceEqDiff, Nat.reduceLT, Nat.reduceLeDiff, reduceCtorEq, Nat.reduceAdd, Nat.reduceSub, noneS, listS, implies_true, forall_const, ne_eq, hnt', o0, o1, valV, List.getD_cons_zero, List.getD_cons_succ, p1, p2, Int.toNat_natCast, Int.natCast_nonneg]
          refine ⟨_, _, _, rfl, by rw [hP]; exact hcallD_func (token_calls (c.s.extract c.la x.f) (textT c.s x) (x.f : Int) _), ?_⟩
          rintro _ σ2 ⟨rfl, h⟩
          subst σ2
          first | exact (drS_upd (by decide) (by decide)).symm | exact ⟨rfl, (drS_upd (by decide) (by decide)).symm⟩
        · have hb : L 21 = false := by
            cases hb : L 21
            · rfl
            · have := hC 21 _ rfl hb 20 (by decide)
              rw [this] at hi
              cases hi
          rw [drS_0 hi hb]
          simp -implicitDefEqProofs (maxSteps := 3000000) only [dsetS, listS, simpS, ↓condJ_true, ↓condJ_false, ↓reduceIte, Nat.reduceEqDiff, Nat.reduceLT, Nat.reduceLeDiff, reduceCtorEq, Nat.reduceAdd, Nat.reduceSub, noneS, listS, implies_true, forall_const, ne_eq, hnt', o0, o1, valV, List.getD_cons_zero, List.getD_cons_succ, p1, p2, Int.toNat_natCast, Int.natCast_nonneg]
          first | exact (drS_a hb (by decide)).symm | exact ⟨rfl, (drS_a hb (by decide)).symm⟩
        · have hb : L 20 = true := ha 20 (by decide)
          rw [drS_1 hb hi]
          simp -implicitDefEqProofs (maxSteps := 3000000) only [dsetS, listS, simpS, ↓condJ_true, ↓condJ_false, ↓reduceIte, Nat.reduceEqDiff, Nat.reduceLT, Nat.reduceLeDiff, reduceCtorEq, Nat.reduceAdd, Nat.reduceSub, noneS, listS, implies_true, forall_const, ne_eq, hnt', o0, o1, valV, List.getD_cons_zero, List.getD_cons_succ, p1, p2, Int.toNat_natCast, Int.natCast_nonneg, encN_length]
          first | exact drS_b.symm | exact ⟨rfl, drS_b.symm⟩
      · intro L hall
        have hs : ∀ S0 S1 S2 : St, drS S0 S1 S2 20 21 L = S2 := fun _ _ _ => by
          unfold drS
          rw [if_pos (hall 21 (by decide))]
        rw [hs]
        simp -implicitDefEqProofs (maxSteps := 3000000) only [dsetS, listS, simpS, ↓condJ_true, ↓condJ_false, ↓reduceIte, Nat.reduceEqDiff, Nat.reduceLT, Nat.reduceLeDiff, reduceCtorEq, Nat.reduceAdd, Nat.reduceSub, noneS, listS, implies_true, forall_const, ne_eq, hnt', valV, List.getD_cons_zero, List.getD_cons_succ]
        refine hgo_sound 60 ?_
        simp -implicitDefEqProofs (maxSteps := 1000000) only [simpS, ↓condJ_true, ↓condJ_false, ↓reduceIte, Nat.reduceEqDiff, Nat.reduceLT, Nat.reduceLeDiff, reduceCtorEq, Nat.reduceAdd, Nat.reduceSub, noneS, listS, implies_true, forall_const, ne_eq]
        have hwn : IntKind.i64.wrap ((c.n : Int) + 1) = ((c.n + 1 : Nat) : Int) := by
          have := hc.len; have := hc.small
          rw [IntWalk.i64_in _ (by omega)]; rfl
        refine hx_drawgo 4 ?_
        simp -implicitDefEqProofs (maxSteps := 100000000) only [drawS, listS, List.getElem?_cons_zero, List.getElem?_cons_succ, List.getElem?_nil, simpS, ↓condJ_true, ↓condJ_false, ↓reduceIte, Nat.reduceEqDiff, Nat.reduceLT, Nat.reduceLeDiff, reduceCtorEq, Nat.reduceAdd, Nat.reduceSub, noneS, listS, implies_true, forall_const, ne_eq, hnt', ho, hn0, hn1, hn2, hn0', hn1', hn2', hwn]
        refine hgo_sound 60 ?_
        simp -implicitDefEqProofs (maxSteps := 1000000) only [simpS, ↓condJ_true, ↓condJ_false, ↓reduceIte, Nat.reduceEqDiff, Nat.reduceLT, Nat.reduceLeDiff, reduceCtorEq, Nat.reduceAdd, Nat.reduceSub, noneS, listS, implies_true, forall_const, ne_eq, ho, hn0, hn1, hn2, hn0', hn1', hn2', encN_length]
        rw [ht]
        exact fpost_pure (σ0 := σ.put id (.box (encC { c with n := c.n + 1, la := x.t }))) (ds := [.agg (encN (.mk 1 (c.s.extract c.la x.f) (textT c.s x) (x.f : Int) []))]) (.inr rfl) (by rw [hnx]; exact Nat.le_refl _) (hwf2 _) (((((Ext.refl _).new _).new _).new _).sub (hwf2 _)) (resD_cellS (ot := none) rfl (by simp [St.obj_new, St.next_new, St.next_put]) rfl resD_nil) ⟨by rw [encN_length]; omega, trivial⟩ (encN_lt _ _) ⟨rfl, rfl⟩

def anyC (c : Cu) (k : Int) : Cu × Nd := takeC c (((peekC c 0).1 : Int) == k)
def wantC (c : Cu) (x : ByteArray) : Cu × Nd := takeC c (isC c 0 x)

theorem cany_calls (id : Nat) (c : Cu) (hc : c.ok) (k : Int) (σ : St) (ho : σ.obj id = some (.box (encC c))) : HCalls Tryz.prog 8 [.ptr id 0, .int .i64 k] σ (fun d σ' => d = .agg (encN (anyC c k).2) ∧ σ' = σ.put id (.box (encC (anyC c k).1))) := by
  refine hcalls_body (fn := Tryz.f8) rfl c8 (by simp [h8]) (by simp [h8, Tryz.f8]) ?_
  intro M hP hr hnt hnx hwf hlt
  simp only [h8, argEnv]
  have hnt' : M.nt = 17 := hnt
  have hid := (hwf.obj _ _ ho).1
  have hn0 : ¬ id = σ.next := by omega
  have hn0' : ¬ σ.next = id := by omega
  have hwf2 : ∀ c', (σ.put id (.box (encC c'))).wf := fun c' => hwf.put hid (encC_lt c' _)
  refine hgo_sound 60 ?_
  simp -implicitDefEqProofs (maxSteps := 1000000) only [simpS, ↓condJ_true, ↓condJ_false, ↓reduceIte, Nat.reduceEqDiff, Nat.reduceLT, Nat.reduceLeDiff, reduceCtorEq, Nat.reduceAdd, Nat.reduceSub, noneS, listS, implies_true, forall_const, ne_eq]
  refine hx_call (f := .fn 23) rfl (by rw [hP]; exact hcallD_func (peek_calls id c hc 0 _ (by simp -implicitDefEqProofs (maxSteps := 1000000) only [simpS, ↓condJ_true, ↓condJ_false, ↓reduceIte, Nat.reduceEqDiff, Nat.reduceLT, Nat.reduceLeDiff, reduceCtorEq, Nat.reduceAdd, Nat.reduceSub, noneS, listS, implies_true, forall_const, ne_eq, hn0]; exact ho))) ?_
  rintro _ σ2 ⟨rfl, h⟩
  subst σ2
  refine hgo_sound 60 ?_
  simp -implicitDefEqProofs (maxSteps := 1000000) only [simpS, ↓condJ_true, ↓condJ_false, ↓reduceIte, Nat.reduceEqDiff, Nat.reduceLT, Nat.reduceLeDiff, reduceCtorEq, Nat.reduceAdd, Nat.reduceSub, noneS, listS, implies_true, forall_const, ne_eq]
  refine hx_call (f := .fn 24) rfl (by rw [hP]; exact hcallD_func (take_calls id c hc (((peekC c 0).1 : Int) == k) _ (by simp -implicitDefEqProofs (maxSteps := 1000000) only [simpS, ↓condJ_true, ↓condJ_false, ↓reduceIte, Nat.reduceEqDiff, Nat.reduceLT, Nat.reduceLeDiff, reduceCtorEq, Nat.reduceAdd, Nat.reduceSub, noneS, listS, implies_true, forall_const, ne_eq, hn0]; exact ho))) ?_
  rintro _ σ2 ⟨rfl, rfl⟩
  refine hgo_sound 60 ?_
  simp -implicitDefEqProofs (maxSteps := 1000000) only [simpS, ↓condJ_true, ↓condJ_false, ↓reduceIte, Nat.reduceEqDiff, Nat.reduceLT, Nat.reduceLeDiff, reduceCtorEq, Nat.reduceAdd, Nat.reduceSub, noneS, listS, implies_true, forall_const, ne_eq, hn0, hn0', encN_length]
  exact fpost_pure (σ0 := σ.put id (.box (encC (anyC c k).1))) (ds := [.agg (encN (anyC c k).2)]) (.inr rfl) (by rw [hnx]; exact Nat.le_refl _) (hwf2 _) (((Ext.refl _).new _).sub (hwf2 _)) (resD_cellS (ot := none) rfl (by simp [St.obj_new, St.next_new, St.next_put, anyC]) (encN_length _) resD_nil) ⟨by rw [encN_length]; omega, trivial⟩ (encN_lt _ _) ⟨rfl, rfl⟩

theorem cwant_calls (id : Nat) (c : Cu) (hc : c.ok) (x : ByteArray) (σ : St) (ho : σ.obj id = some (.box (encC c))) : HCalls Tryz.prog 11 [.ptr id 0, .str x] σ (fun d σ' => d = .agg (encN (wantC c x).2) ∧ σ' = σ.put id (.box (encC (wantC c x).1))) := by
  refine hcalls_body (fn := Tryz.f11) rfl c11 (by simp [h11]) (by simp [h11, Tryz.f11]) ?_
  intro M hP hr hnt hnx hwf hlt
  simp only [h11, argEnv]
  have hnt' : M.nt = 10 := hnt
  have hid := (hwf.obj _ _ ho).1
  have hn0 : ¬ id = σ.next := by omega
  have hn0' : ¬ σ.next = id := by omega
  have hwf2 : ∀ c', (σ.put id (.box (encC c'))).wf := fun c' => hwf.put hid (encC_lt c' _)
  refine hgo_sound 60 ?_
  simp -implicitDefEqProofs (maxSteps := 1000000) only [simpS, ↓condJ_true, ↓condJ_false, ↓reduceIte, Nat.reduceEqDiff, Nat.reduceLT, Nat.reduceLeDiff, reduceCtorEq, Nat.reduceAdd, Nat.reduceSub, noneS, listS, implies_true, forall_const, ne_eq]
  refine hx_call (f := .fn 29) rfl (by rw [hP]; exact hcallD_func (cis_calls id c hc 0 x _ (by simp -implicitDefEqProofs (maxSteps := 1000000) only [simpS, ↓condJ_true, ↓condJ_false, ↓reduceIte, Nat.reduceEqDiff, Nat.reduceLT, Nat.reduceLeDiff, reduceCtorEq, Nat.reduceAdd, Nat.reduceSub, noneS, listS, implies_true, forall_const, ne_eq, hn0]; exact ho))) ?_
  rintro _ σ2 ⟨rfl, h⟩
  subst σ2
  refine hgo_sound 60 ?_
  simp -implicitDefEqProofs (maxSteps := 1000000) only [simpS, ↓condJ_true, ↓condJ_false, ↓reduceIte, Nat.reduceEqDiff, Nat.reduceLT, Nat.reduceLeDiff, reduceCtorEq, Nat.reduceAdd, Nat.reduceSub, noneS, listS, implies_true, forall_const, ne_eq]
  refine hx_call (f := .fn 24) rfl (by rw [hP]; exact hcallD_func (take_calls id c hc (isC c 0 x) _ (by simp -implicitDefEqProofs (maxSteps := 1000000) only [simpS, ↓condJ_true, ↓condJ_false, ↓reduceIte, Nat.reduceEqDiff, Nat.reduceLT, Nat.reduceLeDiff, reduceCtorEq, Nat.reduceAdd, Nat.reduceSub, noneS, listS, implies_true, forall_const, ne_eq, hn0]; exact ho))) ?_
  rintro _ σ2 ⟨rfl, rfl⟩
  refine hgo_sound 60 ?_
  simp -implicitDefEqProofs (maxSteps := 1000000) only [simpS, ↓condJ_true, ↓condJ_false, ↓reduceIte, Nat.reduceEqDiff, Nat.reduceLT, Nat.reduceLeDiff, reduceCtorEq, Nat.reduceAdd, Nat.reduceSub, noneS, listS, implies_true, forall_const, ne_eq, hn0, hn0', encN_length]
  exact fpost_pure (σ0 := σ.put id (.box (encC (wantC c x).1))) (ds := [.agg (encN (wantC c x).2)]) (.inr rfl) (by rw [hnx]; exact Nat.le_refl _) (hwf2 _) (((Ext.refl _).new _).sub (hwf2 _)) (resD_cellS (ot := none) rfl (by simp [St.obj_new, St.next_new, St.next_put, wantC]) (encN_length _) resD_nil) ⟨by rw [encN_length]; omega, trivial⟩ (encN_lt _ _) ⟨rfl, rfl⟩

end Go.Hl
set_option linter.unusedSectionVars false
set_option linter.unusedVariables false
set_option linter.unusedSimpArgs false
set_option maxRecDepth 100000
namespace Go.Hl
open Go Go.Proofs Go.RowKit

def tiled : Nat → List Tk3 → Nat → Prop
  | a, [], e => a = e
  | a, x :: r, e => x.f = a ∧ a < x.t ∧ x.t ≤ e ∧ tiled x.t r e
theorem toks_tiled : ∀ (n : Nat) (l : List UInt8) (a : Nat), l.length ≤ n → tiled a (toks l a) (a + l.length)
  | 0, l, a, h => by
    have : l = [] := List.length_eq_zero_iff.1 (by omega)
    subst this
    rfl
  | n + 1, l, a, h => by
    by_cases hl : l = []
    · subst hl; rfl
    · have h1 := lexN_len l hl
      rw [toks_cons l a hl]
      have := toks_tiled n (l.drop (lexN l).2) (a + (lexN l).2) (by rw [List.length_drop]; omega)
      rw [List.length_drop, show a + (lexN l).2 + (l.length - (lexN l).2) = a + l.length by omega] at this
      exact ⟨rfl, by simp only; omega, by simp only; omega, this⟩

end Go.Hl
set_option linter.unusedSectionVars false
set_option linter.unusedVariables false
set_option linter.unusedSimpArgs false
set_option maxRecDepth 100000
namespace Go.Hl
open Go Go.Proofs Go.RowKit

def sortedT (l : List Tk3) : Prop := ∀ (i j : Nat) x y, l[i]? = some x → l[j]? = some y → i < j → x.t ≤ y.f

structure Cu.good (c : Cu) : Prop where
  ok : c.ok
  srt : sortedT c.L
  deep : c.dp ≤ 200
  at_ : c.at_ ≤ c.s.size
  er : c.er ≤ 15

theorem atC_le {c : Cu} (h : c.ok) : atC c ≤ c.s.size := by
  unfold atC
  split
  · exact Nat.le_refl _
  · rename_i h0
    obtain ⟨he, hj⟩ := leftC_lt (c := c) (j := 0) (by omega)
    have hgd : c.L.getD c.n ⟨0, 0, 0⟩ = c.L[c.n] := by simp [List.getD, show c.n < c.L.length from hj]
    rw [hgd]
    have := h.in_ c.L[c.n] (List.getElem_mem _)
    omega

theorem good_fail {c : Cu} (h : c.good) (e : Int) : (failC c e).good := by
  unfold failC
  split
  · refine ⟨⟨h.ok.small, h.ok.len, h.ok.in_, h.ok.next, h.ok.last, h.ok.lastf⟩, h.srt, h.deep, atC_le h.ok, ?_⟩
    simp only
    split <;> omega
  · exact h

theorem good_take {c : Cu} (h : c.good) (w : Bool) : (takeC c w).1.good := by
  unfold takeC
  split
  · rename_i hw
    obtain ⟨he, hj⟩ := leftC_lt (c := c) (j := 0) (by omega)
    have hj' : c.n < c.L.length := hj
    have hgd : c.L.getD c.n ⟨0, 0, 0⟩ = c.L[c.n] := by simp [List.getD, hj']
    rw [hgd]
    have hx := h.ok.in_ c.L[c.n] (List.getElem_mem _)
    exact ⟨⟨h.ok.small, h.ok.len, h.ok.in_, hj', hx.2, fun y hy => h.srt c.n (c.n + 1) _ y (by simp [hj']) hy (by omega)⟩, h.srt, h.deep, h.at_, h.er⟩
  · exact good_fail h 2

theorem good_down {c : Cu} (h : c.good) : (downC c).1.good := by
  unfold downC
  split
  · split
    · exact good_fail h 3
    · exact ⟨⟨h.ok.small, h.ok.len, h.ok.in_, h.ok.next, h.ok.last, h.ok.lastf⟩, h.srt, by simp only; omega, h.at_, h.er⟩
  · exact h

theorem good_up {c : Cu} (h : c.good) : (upC c).good :=
  ⟨⟨h.ok.small, h.ok.len, h.ok.in_, h.ok.next, h.ok.last, h.ok.lastf⟩, h.srt, by have := h.deep; simp only [upC]; omega, h.at_, h.er⟩

theorem tiled_from : ∀ {l : List Tk3} {a b : Nat}, tiled a l b → ∀ x ∈ l, a ≤ x.f
  | [], a, b, _, x, h => by cases h
  | y :: l, a, b, h, x, hx => by
    obtain ⟨h1, h2, h2b, h3⟩ := h
    rcases List.mem_cons.1 hx with rfl | hx
    · omega
    · have := tiled_from h3 x hx
      omega

theorem sorted_filter (p : Tk3 → Bool) : ∀ {l : List Tk3} {a b : Nat}, tiled a l b → sortedT (l.filter p)
  | [], a, b, _ => fun i j x y hx => by simp at hx
  | z :: l, a, b, h => by
    obtain ⟨h1, h2, h2b, h3⟩ := h
    have ih := sorted_filter p h3
    rw [List.filter_cons]
    split
    · intro i j x y hx hy hij
      cases j with
      | zero => omega
      | succ j =>
        rw [List.getElem?_cons_succ] at hy
        cases i with
        | zero =>
          simp only [List.getElem?_cons_zero, Option.some.injEq] at hx
          subst hx
          exact tiled_from h3 y (List.mem_filter.1 (List.mem_of_getElem? hy)).1
        | succ i =>
          rw [List.getElem?_cons_succ] at hx
          exact ih i j x y hx hy (by omega)
    · exact ih

def startC (s : ByteArray) : Cu := ⟨s, realsL (toks s.data.toList 0), 0, 0, 0, 0, 0⟩

theorem start_good {s : ByteArray} (hs : s.size ≤ 4000) : (startC s).good := by
  have ht := toks_tiled s.data.toList.length s.data.toList 0 (Nat.le_refl _)
  refine ⟨⟨hs, Nat.le_trans (realsL_le _) (toks_le s), fun x hx => ?_, Nat.zero_le _, Nat.zero_le _, fun _ _ => Nat.zero_le _⟩, sorted_filter _ ht, Nat.zero_le _, Nat.zero_le _, Nat.zero_le _⟩
  have := toksS s x ((List.mem_filter.1 hx).1)
  show _ ∧ _ ≤ s.size
  omega

theorem new_large (s : ByteArray) (hs : ¬ s.size ≤ 4000) (σ : St) : HCalls Tryz.prog 5 [.str s] σ (fun d σ' => d = .tuple [.nilp, .int .i64 4000, erV 4] ∧ σ' = σ) := by
  refine hcalls_body (fn := Tryz.f5) rfl c5 (by simp [h5]) (by simp [h5, Tryz.f5]) ?_
  intro M hP hr hnt hnx hwf hlt
  simp only [h5, argEnv]
  have hnt' : M.nt = 26 := hnt
  have d : decide ((s.size : Int) > 4000) = true := decide_eq_true (by omega)
  refine hgo_sound 60 ?_
  simp -implicitDefEqProofs (maxSteps := 1000000) only [simpS, ↓condJ_true, ↓condJ_false, ↓reduceIte, Nat.reduceEqDiff, Nat.reduceLT, Nat.reduceLeDiff, reduceCtorEq, Nat.reduceAdd, Nat.reduceSub, noneS, listS, implies_true, forall_const, ne_eq, d]
  exact fpost_pure (σ0 := σ) (.inr rfl) (by rw [hnx]; exact Nat.le_refl _) hwf (by first | exact Sub.refl σ | exact (((Ext.refl _).new _).sub hwf)) rfl trivial (by repeat' (first | trivial | apply And.intro)) ⟨rfl, rfl⟩

theorem new_bad (s : ByteArray) (hs : s.size ≤ 4000) (f : Nat) (hb : badAt (toks s.data.toList 0) = some f) (σ : St) (hg : GM σ) : HCalls Tryz.prog 5 [.str s] σ (fun d σ' => d = .tuple [.nilp, .int .i64 (f : Int), erV 2] ∧ σ' = σ) := by
  refine hcalls_body (fn := Tryz.f5) rfl c5 (by simp [h5]) (by simp [h5, Tryz.f5]) ?_
  intro M hP hr hnt hnx hwf hlt
  simp only [h5, argEnv]
  have hnt' : M.nt = 26 := hnt
  have d : decide ((s.size : Int) > 4000) = false := decide_eq_false (by omega)
  have hc := real_calls s (by omega) σ hg
  unfold realR realA realE at hc
  rw [hb] at hc
  refine hgo_sound 60 ?_
  simp -implicitDefEqProofs (maxSteps := 1000000) only [simpS, ↓condJ_true, ↓condJ_false, ↓reduceIte, Nat.reduceEqDiff, Nat.reduceLT, Nat.reduceLeDiff, reduceCtorEq, Nat.reduceAdd, Nat.reduceSub, noneS, listS, implies_true, forall_const, ne_eq, d]
  refine hx_call (f := .fn 21) rfl (by rw [hP]; exact hcallD_func (hc)) ?_
  rintro _ σ2 ⟨rfl, h⟩
  subst σ2
  have he2 : erD 2 = .iface 55 (.int .i64 2) := rfl
  simp only [he2]
  refine hgo_sound 60 ?_
  simp -implicitDefEqProofs (maxSteps := 1000000) only [simpS, ↓condJ_true, ↓condJ_false, ↓reduceIte, Nat.reduceEqDiff, Nat.reduceLT, Nat.reduceLeDiff, reduceCtorEq, Nat.reduceAdd, Nat.reduceSub, noneS, listS, implies_true, forall_const, ne_eq]
  exact fpost_pure (σ0 := σ) (.inr rfl) (by rw [hnx]; exact Nat.le_refl _) hwf (by first | exact Sub.refl σ | exact (((Ext.refl _).new _).sub hwf)) rfl trivial (by repeat' (first | trivial | apply And.intro)) ⟨rfl, rfl⟩

theorem new_good (s : ByteArray) (hs : s.size ≤ 4000) (hb : badAt (toks s.data.toList 0) = none) (σ : St) (hg : GM σ) : HCalls Tryz.prog 5 [.str s] σ (fun d σ' => d = .tuple [.ptr σ.next 0, .int .i64 0, .nili] ∧ σ' = σ.new (.box (encC (startC s)))) := by
  refine hcalls_body (fn := Tryz.f5) rfl c5 (by simp [h5]) (by simp [h5, Tryz.f5]) ?_
  intro M hP hr hnt hnx hwf hlt
  simp only [h5, argEnv]
  have hnt' : M.nt = 26 := hnt
  have d : decide ((s.size : Int) > 4000) = false := decide_eq_false (by omega)
  have hc := real_calls s (by omega) σ hg
  unfold realR realA realE at hc
  rw [hb] at hc
  refine hgo_sound 60 ?_
  simp -implicitDefEqProofs (maxSteps := 1000000) only [simpS, ↓condJ_true, ↓condJ_false, ↓reduceIte, Nat.reduceEqDiff, Nat.reduceLT, Nat.reduceLeDiff, reduceCtorEq, Nat.reduceAdd, Nat.reduceSub, noneS, listS, implies_true, forall_const, ne_eq, d]
  refine hx_call (f := .fn 21) rfl (by rw [hP]; exact hcallD_func (hc)) ?_
  rintro _ σ2 ⟨rfl, h⟩
  subst σ2
  have he0 : erD 0 = .nili := rfl
  simp only [he0]
  refine hgo_sound 60 ?_
  simp -implicitDefEqProofs (maxSteps := 1000000) only [simpS, ↓condJ_true, ↓condJ_false, ↓reduceIte, Nat.reduceEqDiff, Nat.reduceLT, Nat.reduceLeDiff, reduceCtorEq, Nat.reduceAdd, Nat.reduceSub, noneS, listS, implies_true, forall_const, ne_eq]
  exact fpost_keep (.inr rfl) rfl trivial (fun _ => ⟨Nat.lt_succ_self _, trivial, trivial, trivial⟩) fun hw => ⟨rfl, rfl⟩

theorem ex_toks8 : toks (⟨#[97, 32, 61, 32, 49]⟩ : ByteArray).data.toList 0 = [⟨4, 0, 1⟩, ⟨1, 1, 2⟩, ⟨6, 2, 3⟩, ⟨1, 3, 4⟩, ⟨5, 4, 5⟩] := by kernel_rfl

set_option maxHeartbeats 4000000 in
theorem calive_calls (σ : St) (hg : GM σ) : HCalls Tryz.prog 4 [] σ (fun d σ' => d = .bool true ∧ σ' = σ) := by
  refine hcalls_body (fn := Tryz.f4) rfl c4 (by simp [h4]) (by simp [h4, Tryz.f4]) ?_
  intro M hP hr hnt hnx hwf hlt
  simp only [h4, argEnv]
  have hnt' : M.nt = 52 := hnt
  refine hgo_sound 60 ?_
  simp -implicitDefEqProofs (maxSteps := 1000000) only [simpS, ↓condJ_true, ↓condJ_false, ↓reduceIte, Nat.reduceEqDiff, Nat.reduceLT, Nat.reduceLeDiff, reduceCtorEq, Nat.reduceAdd, Nat.reduceSub, noneS, listS, implies_true, forall_const, ne_eq]
  refine hx_call (f := .fn 5) rfl (by rw [hP]; exact hcallD_func (new_good ⟨#[97, 32, 61, 32, 49]⟩ (by decide) (by rw [ex_toks8]; rfl) σ hg)) ?_
  rintro _ σ2 ⟨rfl, rfl⟩
  have hst : startC ⟨#[97, 32, 61, 32, 49]⟩ = ⟨⟨#[97, 32, 61, 32, 49]⟩, [⟨4, 0, 1⟩, ⟨6, 2, 3⟩, ⟨5, 4, 5⟩], 0, 0, 0, 0, 0⟩ := by unfold startC; rw [ex_toks8]; rfl
  have hgd := start_good (s := ⟨#[97, 32, 61, 32, 49]⟩) (by decide)
  rw [hst] at hgd ⊢
  generalize hc0 : (⟨⟨#[97, 32, 61, 32, 49]⟩, [⟨4, 0, 1⟩, ⟨6, 2, 3⟩, ⟨5, 4, 5⟩], 0, 0, 0, 0, 0⟩ : Cu) = c0 at *
  have h1 : anyC c0 4 = (⟨⟨#[97, 32, 61, 32, 49]⟩, [⟨4, 0, 1⟩, ⟨6, 2, 3⟩, ⟨5, 4, 5⟩], 1, 1, 0, 0, 0⟩, .mk 1 ⟨#[]⟩ ⟨#[97]⟩ 0 []) := by subst hc0; kernel_rfl
  generalize hc1 : (⟨⟨#[97, 32, 61, 32, 49]⟩, [⟨4, 0, 1⟩, ⟨6, 2, 3⟩, ⟨5, 4, 5⟩], 1, 1, 0, 0, 0⟩ : Cu) = c1 at *
  have h2 : wantC c1 ⟨#[61]⟩ = (⟨⟨#[97, 32, 61, 32, 49]⟩, [⟨4, 0, 1⟩, ⟨6, 2, 3⟩, ⟨5, 4, 5⟩], 2, 3, 0, 0, 0⟩, .mk 1 ⟨#[32]⟩ ⟨#[61]⟩ 2 []) := by subst hc1; kernel_rfl
  generalize hc2 : (⟨⟨#[97, 32, 61, 32, 49]⟩, [⟨4, 0, 1⟩, ⟨6, 2, 3⟩, ⟨5, 4, 5⟩], 2, 3, 0, 0, 0⟩ : Cu) = c2 at *
  have h3 : anyC c2 5 = (⟨⟨#[97, 32, 61, 32, 49]⟩, [⟨4, 0, 1⟩, ⟨6, 2, 3⟩, ⟨5, 4, 5⟩], 3, 5, 0, 0, 0⟩, .mk 1 ⟨#[32]⟩ ⟨#[49]⟩ 4 []) := by subst hc2; kernel_rfl
  generalize hc3 : (⟨⟨#[97, 32, 61, 32, 49]⟩, [⟨4, 0, 1⟩, ⟨6, 2, 3⟩, ⟨5, 4, 5⟩], 3, 5, 0, 0, 0⟩ : Cu) = c3 at *
  have g1 : c1.good := by have := good_take hgd (((peekC c0 0).1 : Int) == 4); rw [show takeC c0 (((peekC c0 0).1 : Int) == 4) = anyC c0 4 from rfl, h1] at this; exact this
  have g2 : c2.good := by have := good_take g1 (isC c1 0 ⟨#[61]⟩); rw [show takeC c1 (isC c1 0 ⟨#[61]⟩) = wantC c1 ⟨#[61]⟩ from rfl, h2] at this; exact this
  have g3 : c3.good := by have := good_take g2 (((peekC c2 0).1 : Int) == 5); rw [show takeC c2 (((peekC c2 0).1 : Int) == 5) = anyC c2 5 from rfl, h3] at this; exact this
  have k3 : leftC c3 = 0 := by subst hc3; rfl
  refine hgo_sound 60 ?_
  simp -implicitDefEqProofs (maxSteps := 1000000) only [simpS, ↓condJ_true, ↓condJ_false, ↓reduceIte, Nat.reduceEqDiff, Nat.reduceLT, Nat.reduceLeDiff, reduceCtorEq, Nat.reduceAdd, Nat.reduceSub, noneS, listS, implies_true, forall_const, ne_eq]
  refine hx_call (f := .fn 8) rfl (by rw [hP]; exact hcallD_func (cany_calls σ.next c0 hgd.ok 4 _ (by simp -implicitDefEqProofs (maxSteps := 1000000) only [simpS, ↓condJ_true, ↓condJ_false, ↓reduceIte, Nat.reduceEqDiff, Nat.reduceLT, Nat.reduceLeDiff, reduceCtorEq, Nat.reduceAdd, Nat.reduceSub, noneS, listS, implies_true, forall_const, ne_eq]))) ?_
  rintro _ σ2 ⟨rfl, rfl⟩
  rw [h1]
  refine hgo_sound 60 ?_
  simp -implicitDefEqProofs (maxSteps := 1000000) only [simpS, ↓condJ_true, ↓condJ_false, ↓reduceIte, Nat.reduceEqDiff, Nat.reduceLT, Nat.reduceLeDiff, reduceCtorEq, Nat.reduceAdd, Nat.reduceSub, noneS, listS, implies_true, forall_const, ne_eq]
  refine hx_call (f := .fn 11) rfl (by rw [hP]; exact hcallD_func (cwant_calls σ.next c1 g1.ok ⟨#[61]⟩ _ (by simp -implicitDefEqProofs (maxSteps := 1000000) only [simpS, ↓condJ_true, ↓condJ_false, ↓reduceIte, Nat.reduceEqDiff, Nat.reduceLT, Nat.reduceLeDiff, reduceCtorEq, Nat.reduceAdd, Nat.reduceSub, noneS, listS, implies_true, forall_const, ne_eq]))) ?_
  rintro _ σ2 ⟨rfl, rfl⟩
  rw [h2]
  refine hgo_sound 60 ?_
  simp -implicitDefEqProofs (maxSteps := 1000000) only [simpS, ↓condJ_true, ↓condJ_false, ↓reduceIte, Nat.reduceEqDiff, Nat.reduceLT, Nat.reduceLeDiff, reduceCtorEq, Nat.reduceAdd, Nat.reduceSub, noneS, listS, implies_true, forall_const, ne_eq]
  refine hx_call (f := .fn 8) rfl (by rw [hP]; exact hcallD_func (cany_calls σ.next c2 g2.ok 5 _ (by simp -implicitDefEqProofs (maxSteps := 1000000) only [simpS, ↓condJ_true, ↓condJ_false, ↓reduceIte, Nat.reduceEqDiff, Nat.reduceLT, Nat.reduceLeDiff, reduceCtorEq, Nat.reduceAdd, Nat.reduceSub, noneS, listS, implies_true, forall_const, ne_eq]))) ?_
  rintro _ σ2 ⟨rfl, rfl⟩
  rw [h3]
  have e1 : encN (.mk 1 ⟨#[]⟩ ⟨#[97]⟩ 0 []) = [.int .i64 1, .str ⟨#[]⟩, .str ⟨#[97]⟩, .int .i64 0, .slice .no 5 []] := rfl
  have e2 : encN (.mk 1 ⟨#[32]⟩ ⟨#[61]⟩ 2 []) = [.int .i64 1, .str ⟨#[32]⟩, .str ⟨#[61]⟩, .int .i64 2, .slice .no 5 []] := rfl
  have e3 : encN (.mk 1 ⟨#[32]⟩ ⟨#[49]⟩ 4 []) = [.int .i64 1, .str ⟨#[32]⟩, .str ⟨#[49]⟩, .int .i64 4, .slice .no 5 []] := rfl
  have d1 : decide ((⟨#[97]⟩ : ByteArray) = ⟨#[97]⟩) = true := by decide
  have d2 : decide ((⟨#[]⟩ : ByteArray) = ⟨#[]⟩) = true := by decide
  have d3 : decide ((⟨#[32]⟩ : ByteArray) = ⟨#[32]⟩) = true := by decide
  have d4 : ((4 : Int) == 4) = true := rfl
  rw [e1, e2, e3]
  refine hgo_sound 60 ?_
  simp -implicitDefEqProofs (maxSteps := 1000000) only [simpS, ↓condJ_true, ↓condJ_false, ↓reduceIte, Nat.reduceEqDiff, Nat.reduceLT, Nat.reduceLeDiff, reduceCtorEq, Nat.reduceAdd, Nat.reduceSub, noneS, listS, implies_true, forall_const, ne_eq, d1, d2, d3, d4]
  refine hx_call (f := .fn 20) rfl (by rw [hP]; exact hcallD_func (left_calls σ.next c3 g3.ok _ (by simp -implicitDefEqProofs (maxSteps := 1000000) only [simpS, ↓condJ_true, ↓condJ_false, ↓reduceIte, Nat.reduceEqDiff, Nat.reduceLT, Nat.reduceLeDiff, reduceCtorEq, Nat.reduceAdd, Nat.reduceSub, noneS, listS, implies_true, forall_const, ne_eq]))) ?_
  rintro _ σ2 ⟨rfl, h⟩
  subst σ2
  have d5 : ((leftC c3 : Int) == 0) = true := by rw [k3]; rfl
  refine hgo_sound 60 ?_
  simp -implicitDefEqProofs (maxSteps := 1000000) only [simpS, ↓condJ_true, ↓condJ_false, ↓reduceIte, Nat.reduceEqDiff, Nat.reduceLT, Nat.reduceLeDiff, reduceCtorEq, Nat.reduceAdd, Nat.reduceSub, noneS, listS, implies_true, forall_const, ne_eq, d5]
  exact fpost_pure (σ0 := σ) (.inr rfl) (by rw [hnx]; exact Nat.le_refl _) hwf (((((Ext.refl _).new _).new _).new _).new _ |>.sub hwf) rfl trivial trivial ⟨rfl, rfl⟩

end Go.Hl
set_option linter.unusedSectionVars false
set_option linter.unusedVariables false
set_option linter.unusedSimpArgs false
set_option maxRecDepth 100000
namespace Go.Hl
open Go Go.Proofs Go.RowKit

abbrev encR (c : Cu) : List D := [.str c.s, .slice .no 3 (encTk c.L), .int .i64 (c.n : Int), .int .i64 (c.dp : Int), .int .i64 (c.at_ : Int), .int .i64 (c.er : Int)]
theorem encR_lt (c : Cu) (n : Nat) : ltL n (encR c) := ⟨trivial, ⟨trivial, encTk_lt _ _⟩, trivial, trivial, trivial, trivial, trivial⟩

theorem rleft_calls (c : Cu) (hc : c.ok) (σ : St) : HCalls Tryz.prog 35 [.agg (encR c)] σ (fun d σ' => d = .int .i64 (leftC c : Int) ∧ σ' = σ) := by
  refine hcalls_body (fn := Tryz.f35) rfl c35 (by simp [h35]) (by simp [h35, Tryz.f35]) ?_
  intro M hP hr hnt hnx hwf hlt
  simp only [h35, argEnv]
  have hnt' : M.nt = 12 := hnt
  have hnx2 := hc.next
  by_cases he : c.er = 0
  · have e1 : ((c.er : Int) != 0) = false := by rw [he]; rfl
    have hw : IntKind.i64.wrap ((c.L.length : Int) - (c.n : Int)) = ((c.L.length - c.n : Nat) : Int) := by
      have := hc.len; have := hc.small
      rw [IntWalk.i64_in _ (by omega)]; omega
    have hl : leftC c = c.L.length - c.n := by unfold leftC; rw [if_pos he]
    rw [hl]
    refine hgo_sound 60 ?_
    simp -implicitDefEqProofs (maxSteps := 1000000) only [simpS, ↓condJ_true, ↓condJ_false, ↓reduceIte, Nat.reduceEqDiff, Nat.reduceLT, Nat.reduceLeDiff, reduceCtorEq, Nat.reduceAdd, Nat.reduceSub, noneS, listS, implies_true, forall_const, ne_eq, e1, encTk_length, hw]
    exact fpost_pure (σ0 := σ) (.inr rfl) (by rw [hnx]; exact Nat.le_refl _) hwf (by first | exact Sub.refl σ | exact (((Ext.refl _).new _).sub hwf)) rfl trivial (by repeat' (first | trivial | apply And.intro)) ⟨rfl, rfl⟩
  · have e1 : ((c.er : Int) != 0) = true := by simp; omega
    have hl : leftC c = 0 := by unfold leftC; rw [if_neg he]
    rw [hl]
    refine hgo_sound 60 ?_
    simp -implicitDefEqProofs (maxSteps := 1000000) only [simpS, ↓condJ_true, ↓condJ_false, ↓reduceIte, Nat.reduceEqDiff, Nat.reduceLT, Nat.reduceLeDiff, reduceCtorEq, Nat.reduceAdd, Nat.reduceSub, noneS, listS, implies_true, forall_const, ne_eq, e1]
    exact fpost_pure (σ0 := σ) (.inr rfl) (by rw [hnx]; exact Nat.le_refl _) hwf (by first | exact Sub.refl σ | exact (((Ext.refl _).new _).sub hwf)) rfl trivial (by repeat' (first | trivial | apply And.intro)) ⟨rfl, rfl⟩

theorem rpeek_calls (c : Cu) (hc : c.ok) (a : Int) (σ : St) : HCalls Tryz.prog 25 [.agg (encR c), .int .i64 a] σ (fun d σ' => d = .tuple [.int .i64 ((peekC c a).1 : Int), .str (peekC c a).2] ∧ σ' = σ) := by
  refine hcalls_body (fn := Tryz.f25) rfl c25 (by simp [h25]) (by simp [h25, Tryz.f25]) ?_
  intro M hP hr hnt hnx hwf hlt
  simp only [h25, argEnv]
  have hnt' : M.nt = 34 := hnt
  refine hgo_sound 60 ?_
  simp -implicitDefEqProofs (maxSteps := 1000000) only [simpS, ↓condJ_true, ↓condJ_false, ↓reduceIte, Nat.reduceEqDiff, Nat.reduceLT, Nat.reduceLeDiff, reduceCtorEq, Nat.reduceAdd, Nat.reduceSub, noneS, listS, implies_true, forall_const, ne_eq]
  refine hx_know_code fun hw hl1 hn => ?_
  refine hx_loop (S := Nat) (fun i => [(1, .int .i64 a), (2, .ptr σ.next 0), (6, .int .i64 (i : Int))]) (fun i => σ.new (.box (encR c)))
    (fun i => i ≤ leftC c ∧ ∀ j : Nat, j < i → (j : Int) ≠ a) (fun i => leftC c - i) 0 ⟨Nat.zero_le _, fun j h => by omega⟩ (fun _ _ h => by rw [hr] at h; cases h) ?_ ?_
  · exact Drop.all hw hn ⟨⟨rfl, trivial⟩, ⟨rfl, hl1 2⟩, ⟨rfl, trivial⟩, trivial⟩
  rintro i ⟨hi1, hi2⟩
  have hll : leftC c ≤ 4000 := by unfold leftC; have := hc.len; have := hc.small; split <;> omega
  refine hgo_sound 60 ?_
  simp -implicitDefEqProofs (maxSteps := 1000000) only [simpS, ↓condJ_true, ↓condJ_false, ↓reduceIte, Nat.reduceEqDiff, Nat.reduceLT, Nat.reduceLeDiff, reduceCtorEq, Nat.reduceAdd, Nat.reduceSub, noneS, listS, implies_true, forall_const, ne_eq]
  refine hx_call (f := .fn 35) rfl (by rw [hP]; exact hcallD_func (rleft_calls c hc _)) ?_
  rintro _ σ2 ⟨rfl, h⟩
  subst σ2
  by_cases hi : i < leftC c
  · have d1 : decide ((i : Int) < (leftC c : Int)) = true := decide_eq_true (by omega)
    have hwi : IntKind.i64.wrap ((i : Int) + 1) = ((i + 1 : Nat) : Int) := by rw [IntWalk.i64_in _ (by omega)]; rfl
    by_cases ha : (i : Int) = a
    · subst ha
      have e1 : ((i : Int) == (i : Int)) = true := by simp
      obtain ⟨he, hj⟩ := leftC_lt (c := c) (j := i) hi
      have hg := encTk_get c.L (c.n + i) hj
      have hw : IntKind.i64.wrap ((c.n : Int) + (i : Int)) = ((c.n + i : Nat) : Int) := by
        have := hc.len; have := hc.small
        rw [IntWalk.i64_in _ (by omega)]; rfl
      have hlt2 : ((c.n + i : Nat) : Int) < (c.L.length : Int) := by omega
      have hx := hc.in_ c.L[c.n + i] (List.getElem_mem _)
      have hgd : c.L.getD (c.n + i) ⟨0, 0, 0⟩ = c.L[c.n + i] := by simp [List.getD, hj]
      have hp : peekC c (i : Int) = (c.L[c.n + i].k, textT c.s c.L[c.n + i]) := by unfold peekC; rw [if_pos ⟨by omega, by omega⟩, Int.toNat_natCast, hgd]
      have ht : textT c.s c.L[c.n + i] = c.s.extract c.L[c.n + i].f c.L[c.n + i].t := rfl
      rw [hp, ht]
      generalize c.L[c.n + i] = x at *
      have p1 : (x.t : Int) ≤ (c.s.size : Int) := by omega
      have p2 : (x.f : Int) ≤ (x.t : Int) := by omega
      refine hgo_sound 60 ?_
      simp -implicitDefEqProofs (maxSteps := 1000000) only [simpS, ↓condJ_true, ↓condJ_false, ↓reduceIte, Nat.reduceEqDiff, Nat.reduceLT, Nat.reduceLeDiff, reduceCtorEq, Nat.reduceAdd, Nat.reduceSub, noneS, listS, implies_true, forall_const, ne_eq, d1, hw, hg, hlt2, encTk_length, Int.toNat_natCast, Int.natCast_nonneg]
      refine hx_drawgo 1 ?_
      simp -implicitDefEqProofs (maxSteps := 100000000) only [drawS, listS, List.getElem?_cons_zero, List.getElem?_cons_succ, List.getElem?_nil, simpS, ↓condJ_true, ↓condJ_false, ↓reduceIte, Nat.reduceEqDiff, Nat.reduceLT, Nat.reduceLeDiff, reduceCtorEq, Nat.reduceAdd, Nat.reduceSub, noneS, listS, implies_true, forall_const, ne_eq, hnt', p1, p2, Int.toNat_natCast, Int.natCast_nonneg]
      refine hgo_sound 60 ?_
      simp -implicitDefEqProofs (maxSteps := 1000000) only [simpS, ↓condJ_true, ↓condJ_false, ↓reduceIte, Nat.reduceEqDiff, Nat.reduceLT, Nat.reduceLeDiff, reduceCtorEq, Nat.reduceAdd, Nat.reduceSub, noneS, listS, implies_true, forall_const, ne_eq]
      exact fpost_pure (σ0 := σ) (.inr rfl) (by rw [hnx]; exact Nat.le_refl _) hwf ((((Ext.refl _).new _).new _).sub hwf) rfl trivial ⟨trivial, trivial, trivial⟩ ⟨rfl, rfl⟩
    · have e1 : ((i : Int) == a) = false := by simpa using ha
      refine hgo_sound 60 ?_
      simp -implicitDefEqProofs (maxSteps := 1000000) only [simpS, ↓condJ_true, ↓condJ_false, ↓reduceIte, Nat.reduceEqDiff, Nat.reduceLT, Nat.reduceLeDiff, reduceCtorEq, Nat.reduceAdd, Nat.reduceSub, noneS, listS, implies_true, forall_const, ne_eq, d1, e1, hwi]
      intro hw5 hl5 hn5
      refine ⟨i + 1, ⟨by omega, fun j hj => ?_⟩, by omega, ?_⟩
      · by_cases e : j = i
        · subst e; exact ha
        · exact hi2 j (by omega)
      exact Drop.allS (Sub.refl _) (hwf.box (encR_lt c _)) hn5 ⟨⟨rfl, trivial⟩, ⟨rfl, Nat.lt_succ_self _⟩, ⟨rfl, trivial⟩, trivial⟩
  · have d1 : decide ((i : Int) < (leftC c : Int)) = false := decide_eq_false (by omega)
    have hp : peekC c a = (0, ⟨#[]⟩) := by
      unfold peekC
      rw [if_neg fun h => ?_]
      exact hi2 a.toNat (by omega) (by omega)
    rw [hp]
    refine hgo_sound 60 ?_
    simp -implicitDefEqProofs (maxSteps := 1000000) only [simpS, ↓condJ_true, ↓condJ_false, ↓reduceIte, Nat.reduceEqDiff, Nat.reduceLT, Nat.reduceLeDiff, reduceCtorEq, Nat.reduceAdd, Nat.reduceSub, noneS, listS, implies_true, forall_const, ne_eq, d1]
    exact fpost_pure (σ0 := σ) (.inr rfl) (by rw [hnx]; exact Nat.le_refl _) hwf (by first | exact Sub.refl σ | exact (((Ext.refl _).new _).sub hwf)) rfl trivial (by repeat' (first | trivial | apply And.intro)) ⟨rfl, rfl⟩

theorem ris_calls (c : Cu) (hc : c.ok) (a : Int) (x : ByteArray) (σ : St) : HCalls Tryz.prog 30 [.agg (encR c), .int .i64 a, .str x] σ (fun d σ' => d = .bool (isC c a x) ∧ σ' = σ) := by
  refine hcalls_body (fn := Tryz.f30) rfl c30 (by simp [h30]) (by simp [h30, Tryz.f30]) ?_
  intro M hP hr hnt hnx hwf hlt
  simp only [h30, argEnv]
  have hnt' : M.nt = 26 := hnt
  refine hgo_sound 60 ?_
  simp -implicitDefEqProofs (maxSteps := 1000000) only [simpS, ↓condJ_true, ↓condJ_false, ↓reduceIte, Nat.reduceEqDiff, Nat.reduceLT, Nat.reduceLeDiff, reduceCtorEq, Nat.reduceAdd, Nat.reduceSub, noneS, listS, implies_true, forall_const, ne_eq]
  refine hx_call (f := .fn 25) rfl (by rw [hP]; exact hcallD_func (rpeek_calls c hc a _)) ?_
  rintro _ σ2 ⟨rfl, h⟩
  subst σ2
  unfold isC
  generalize peekC c a = q
  obtain ⟨k, t⟩ := q
  have e3 : ((k : Int) == 3) = decide (k = 3) := by rw [Bool.eq_iff_iff]; simp; omega
  have e6 : ((k : Int) == 6) = decide (k = 6) := by rw [Bool.eq_iff_iff]; simp; omega
  simp only
  cases hk3 : decide (k = 3)
  · cases hk6 : decide (k = 6)
    · refine hgo_sound 60 ?_
      simp -implicitDefEqProofs (maxSteps := 1000000) only [simpS, ↓condJ_true, ↓condJ_false, ↓reduceIte, Nat.reduceEqDiff, Nat.reduceLT, Nat.reduceLeDiff, reduceCtorEq, Nat.reduceAdd, Nat.reduceSub, noneS, listS, implies_true, forall_const, ne_eq, e3, e6, hk3, hk6]
      exact fpost_pure (σ0 := σ) (.inr rfl) (by rw [hnx]; exact Nat.le_refl _) hwf (by first | exact Sub.refl σ | exact (((Ext.refl _).new _).sub hwf)) rfl trivial (by repeat' (first | trivial | apply And.intro)) ⟨rfl, rfl⟩
    · refine hgo_sound 60 ?_
      simp -implicitDefEqProofs (maxSteps := 1000000) only [simpS, ↓condJ_true, ↓condJ_false, ↓reduceIte, Nat.reduceEqDiff, Nat.reduceLT, Nat.reduceLeDiff, reduceCtorEq, Nat.reduceAdd, Nat.reduceSub, noneS, listS, implies_true, forall_const, ne_eq, e3, e6, hk3, hk6]
      exact fpost_pure (σ0 := σ) (.inr rfl) (by rw [hnx]; exact Nat.le_refl _) hwf (by first | exact Sub.refl σ | exact (((Ext.refl _).new _).sub hwf)) rfl trivial (by repeat' (first | trivial | apply And.intro)) ⟨rfl, rfl⟩
  · refine hgo_sound 60 ?_
    simp -implicitDefEqProofs (maxSteps := 1000000) only [simpS, ↓condJ_true, ↓condJ_false, ↓reduceIte, Nat.reduceEqDiff, Nat.reduceLT, Nat.reduceLeDiff, reduceCtorEq, Nat.reduceAdd, Nat.reduceSub, noneS, listS, implies_true, forall_const, ne_eq, e3, e6, hk3]
    exact fpost_pure (σ0 := σ) (.inr rfl) (by rw [hnx]; exact Nat.le_refl _) hwf (by first | exact Sub.refl σ | exact (((Ext.refl _).new _).sub hwf)) rfl trivial (by repeat' (first | trivial | apply And.intro)) ⟨rfl, rfl⟩

theorem rat_calls (c : Cu) (hc : c.ok) (σ : St) : HCalls Tryz.prog 32 [.agg (encR c)] σ (fun d σ' => d = .int .i64 (atC c : Int) ∧ σ' = σ) := by
  refine hcalls_body (fn := Tryz.f32) rfl c32 (by simp [h32]) (by simp [h32, Tryz.f32]) ?_
  intro M hP hr hnt hnx hwf hlt
  simp only [h32, argEnv]
  have hnt' : M.nt = 16 := hnt
  refine hgo_sound 60 ?_
  simp -implicitDefEqProofs (maxSteps := 1000000) only [simpS, ↓condJ_true, ↓condJ_false, ↓reduceIte, Nat.reduceEqDiff, Nat.reduceLT, Nat.reduceLeDiff, reduceCtorEq, Nat.reduceAdd, Nat.reduceSub, noneS, listS, implies_true, forall_const, ne_eq]
  refine hx_call (f := .fn 35) rfl (by rw [hP]; exact hcallD_func (rleft_calls c hc _)) ?_
  rintro _ σ2 ⟨rfl, h⟩
  subst σ2
  by_cases h0 : leftC c = 0
  · have e0 : ((leftC c : Int) == 0) = true := by rw [h0]; rfl
    have hp : atC c = c.s.size := by unfold atC; rw [if_pos h0]
    rw [hp]
    refine hgo_sound 60 ?_
    simp -implicitDefEqProofs (maxSteps := 1000000) only [simpS, ↓condJ_true, ↓condJ_false, ↓reduceIte, Nat.reduceEqDiff, Nat.reduceLT, Nat.reduceLeDiff, reduceCtorEq, Nat.reduceAdd, Nat.reduceSub, noneS, listS, implies_true, forall_const, ne_eq, e0]
    exact fpost_pure (σ0 := σ) (.inr rfl) (by rw [hnx]; exact Nat.le_refl _) hwf (by first | exact Sub.refl σ | exact (((Ext.refl _).new _).sub hwf)) rfl trivial (by repeat' (first | trivial | apply And.intro)) ⟨rfl, rfl⟩
  · have e0 : ((leftC c : Int) == 0) = false := by simp; omega
    obtain ⟨he, hj⟩ := leftC_lt (c := c) (j := 0) (by omega)
    have hg := encTk_get c.L c.n hj
    have hlt2 : (c.n : Int) < (c.L.length : Int) := by omega
    have hgd : c.L.getD c.n ⟨0, 0, 0⟩ = c.L[c.n] := by simp [List.getD, show c.n < c.L.length from hj]
    have hp : atC c = c.L[c.n].f := by unfold atC; rw [if_neg h0, hgd]
    rw [hp]
    refine hgo_sound 90 ?_
    simp -implicitDefEqProofs (maxSteps := 1000000) only [simpS, ↓condJ_true, ↓condJ_false, ↓reduceIte, Nat.reduceEqDiff, Nat.reduceLT, Nat.reduceLeDiff, reduceCtorEq, Nat.reduceAdd, Nat.reduceSub, noneS, listS, implies_true, forall_const, ne_eq, e0, encTk_length, hg, hlt2, Int.toNat_natCast, Int.natCast_nonneg]
    exact fpost_pure (σ0 := σ) (.inr rfl) (by rw [hnx]; exact Nat.le_refl _) hwf (by first | exact Sub.refl σ | exact (((Ext.refl _).new _).sub hwf)) rfl trivial (by repeat' (first | trivial | apply And.intro)) ⟨rfl, rfl⟩

theorem fp_cell {n0 n t id : Nat} {σ σ' : St} {env : Env} {ot : Option Nat} {cs : List D} (hn : n0 ≤ σ.next) (hwf : σ.wf) (hx : Ext σ σ') (h : look env t = .ptr id 0) (h2 : σ'.obj id = some (.bx ot cs)) (hl : cs.length = n) (hlt : ltL σ.next cs) :
    FPost n0 [HR.cell t (some n)] (fun d s => d = .agg cs ∧ s = σ) .ret env σ' :=
  fpost_pure (σ0 := σ) (ds := [.agg cs]) (.inr rfl) hn hwf (hx.sub hwf) (resD_cellS h h2 hl resD_nil) ⟨by omega, trivial⟩ hlt ⟨rfl, rfl⟩

theorem fp_cellT {n0 n t t2 id : Nat} {σ σ' : St} {env : Env} {ot : Option Nat} {cs : List D} {d2 : D} (hn : n0 ≤ σ.next) (hwf : σ.wf) (hx : Ext σ σ') (h : look env t = .ptr id 0) (h2 : σ'.obj id = some (.bx ot cs)) (hl : cs.length = n) (hlt : ltL σ.next cs) (ht : look env t2 = d2) (hlt2 : d2.lt σ.next) :
    FPost n0 [HR.cell t (some n), HR.tmp t2] (fun d s => d = .tuple [.agg cs, d2] ∧ s = σ) .ret env σ' :=
  fpost_pure (σ0 := σ) (ds := [.agg cs, look env t2]) (p := (0 + n ≤ cs.length) ∧ True) (.inr rfl) hn hwf (hx.sub hwf) (resD_cellS h h2 hl rfl) ⟨by omega, trivial⟩ ⟨hlt, by rw [ht]; exact hlt2, trivial⟩ ⟨by rw [ht]; rfl, rfl⟩

theorem fp_cell2 {n0 n m t t2 id id2 : Nat} {σ σ' : St} {env : Env} {ot ot2 : Option Nat} {cs cs2 : List D} {d : D} (hn : n0 ≤ σ.next) (hwf : σ.wf) (hx : Ext σ σ') (h : look env t = .ptr id 0) (h2 : σ'.obj id = some (.bx ot cs)) (hl : cs.length = n) (hlt : ltL σ.next cs)
    (k : look env t2 = .ptr id2 0) (k2 : σ'.obj id2 = some (.bx ot2 cs2)) (kl : cs2.length = m) (klt : ltL σ.next cs2) (hw : Wk (.agg cs2) d) :
    FPost n0 [HR.cell t (some n), HR.cell t2 (some m)] (fun x s => x = .tuple [.agg cs, d] ∧ s = σ) .ret env σ' :=
  fpost_wk (σ0 := σ) (ds := [.agg cs, .agg cs2]) (.tuple (.cons (.refl _) (.cons hw .nil))) (.inr rfl) hn hwf (hx.sub hwf) (resD_cellS h h2 hl (resD_cellS k k2 kl resD_nil)) ⟨by omega, by omega, trivial⟩ ⟨hlt, klt, trivial⟩ ⟨rfl, rfl⟩

theorem rfail_calls (c : Cu) (hc : c.ok) (e : Int) (σ : St) : HCalls Tryz.prog 18 [.agg (encR c), .int .i64 e] σ (fun d σ' => d = .agg (encR (failC c e)) ∧ σ' = σ) := by
  refine hcalls_body (fn := Tryz.f18) rfl c18 (by simp [h18]) (by simp [h18, Tryz.f18]) ?_
  intro M hP hr hnt hnx hwf hlt
  simp only [h18, argEnv]
  have hnt' : M.nt = 22 := hnt
  by_cases he : c.er = 0
  · have e1 : ((c.er : Int) != 0) = false := by rw [he]; rfl
    by_cases h1 : e < 1
    · have d1 : decide (e < 1) = true := decide_eq_true h1
      have hf : failC c e = { c with at_ := atC c, er := 2 } := by unfold failC; rw [if_pos he, if_pos (.inl h1)]
      rw [hf]
      refine hgo_sound 90 ?_
      simp -implicitDefEqProofs (maxSteps := 1000000) only [simpS, ↓condJ_true, ↓condJ_false, ↓reduceIte, Nat.reduceEqDiff, Nat.reduceLT, Nat.reduceLeDiff, reduceCtorEq, Nat.reduceAdd, Nat.reduceSub, noneS, listS, implies_true, forall_const, ne_eq, e1]
      refine hx_call (f := .fn 32) rfl (by rw [hP]; exact hcallD_func (rat_calls c hc _)) ?_
      rintro _ σ2 ⟨rfl, h⟩
      subst σ2
      refine hgo_sound 90 ?_
      simp -implicitDefEqProofs (maxSteps := 1000000) only [simpS, ↓condJ_true, ↓condJ_false, ↓reduceIte, Nat.reduceEqDiff, Nat.reduceLT, Nat.reduceLeDiff, reduceCtorEq, Nat.reduceAdd, Nat.reduceSub, noneS, listS, implies_true, forall_const, ne_eq, d1]
      exact fp_cell (by rw [hnx]; exact Nat.le_refl _) hwf (((Ext.refl _).new _).new _) rfl (by simp [St.obj_new, St.next_new]; rfl) rfl (encR_lt { c with at_ := atC c, er := 2 } _)
    · have d1 : decide (e < 1) = false := decide_eq_false h1
      by_cases h2 : e > 15
      · have d2 : decide (e > 15) = true := decide_eq_true h2
        have hf : failC c e = { c with at_ := atC c, er := 2 } := by unfold failC; rw [if_pos he, if_pos (.inr h2)]
        rw [hf]
        refine hgo_sound 90 ?_
        simp -implicitDefEqProofs (maxSteps := 1000000) only [simpS, ↓condJ_true, ↓condJ_false, ↓reduceIte, Nat.reduceEqDiff, Nat.reduceLT, Nat.reduceLeDiff, reduceCtorEq, Nat.reduceAdd, Nat.reduceSub, noneS, listS, implies_true, forall_const, ne_eq, e1]
        refine hx_call (f := .fn 32) rfl (by rw [hP]; exact hcallD_func (rat_calls c hc _)) ?_
        rintro _ σ2 ⟨rfl, h⟩
        subst σ2
        refine hgo_sound 90 ?_
        simp -implicitDefEqProofs (maxSteps := 1000000) only [simpS, ↓condJ_true, ↓condJ_false, ↓reduceIte, Nat.reduceEqDiff, Nat.reduceLT, Nat.reduceLeDiff, reduceCtorEq, Nat.reduceAdd, Nat.reduceSub, noneS, listS, implies_true, forall_const, ne_eq, d1, d2]
        exact fp_cell (by rw [hnx]; exact Nat.le_refl _) hwf (((Ext.refl _).new _).new _) rfl (by simp [St.obj_new, St.next_new]; rfl) rfl (encR_lt { c with at_ := atC c, er := 2 } _)
      · have d2 : decide (e > 15) = false := decide_eq_false h2
        have hf : failC c e = { c with at_ := atC c, er := e.toNat } := by unfold failC; rw [if_pos he, if_neg (by omega)]
        obtain ⟨j, rfl⟩ : ∃ j : Nat, e = (j : Int) := ⟨e.toNat, by omega⟩
        rw [hf]
        refine hgo_sound 90 ?_
        simp -implicitDefEqProofs (maxSteps := 1000000) only [simpS, ↓condJ_true, ↓condJ_false, ↓reduceIte, Nat.reduceEqDiff, Nat.reduceLT, Nat.reduceLeDiff, reduceCtorEq, Nat.reduceAdd, Nat.reduceSub, noneS, listS, implies_true, forall_const, ne_eq, e1]
        refine hx_call (f := .fn 32) rfl (by rw [hP]; exact hcallD_func (rat_calls c hc _)) ?_
        rintro _ σ2 ⟨rfl, h⟩
        subst σ2
        refine hgo_sound 90 ?_
        simp -implicitDefEqProofs (maxSteps := 1000000) only [simpS, ↓condJ_true, ↓condJ_false, ↓reduceIte, Nat.reduceEqDiff, Nat.reduceLT, Nat.reduceLeDiff, reduceCtorEq, Nat.reduceAdd, Nat.reduceSub, noneS, listS, implies_true, forall_const, ne_eq, d1, d2]
        exact fp_cell (by rw [hnx]; exact Nat.le_refl _) hwf (((Ext.refl _).new _).new _) rfl (by simp [St.obj_new, St.next_new]; rfl) rfl (encR_lt { c with at_ := atC c, er := (j : Int).toNat } _)
  · have e1 : ((c.er : Int) != 0) = true := by simp; omega
    have hf : failC c e = c := by unfold failC; rw [if_neg he]
    rw [hf]
    refine hgo_sound 90 ?_
    simp -implicitDefEqProofs (maxSteps := 1000000) only [simpS, ↓condJ_true, ↓condJ_false, ↓reduceIte, Nat.reduceEqDiff, Nat.reduceLT, Nat.reduceLeDiff, reduceCtorEq, Nat.reduceAdd, Nat.reduceSub, noneS, listS, implies_true, forall_const, ne_eq, e1]
    exact fp_cell (by rw [hnx]; exact Nat.le_refl _) hwf (((Ext.refl _).new _).new _) rfl (by simp [St.obj_new, St.next_new]; rfl) rfl (encR_lt c _)

theorem rup_calls (c : Cu) (hd : c.dp ≤ 200) (σ : St) : HCalls Tryz.prog 16 [.agg (encR c)] σ (fun d σ' => d = .agg (encR (upC c)) ∧ σ' = σ) := by
  refine hcalls_body (fn := Tryz.f16) rfl c16 (by simp [h16]) (by simp [h16, Tryz.f16]) ?_
  intro M hP hr hnt hnx hwf hlt
  simp only [h16, argEnv]
  have hnt' : M.nt = 11 := hnt
  by_cases h1 : 0 < c.dp
  · have d1 : decide ((c.dp : Int) > 0) = true := decide_eq_true (by omega)
    have hw : IntKind.i64.wrap ((c.dp : Int) - 1) = ((c.dp - 1 : Nat) : Int) := by rw [IntWalk.i64_in _ (by omega)]; omega
    rw [show upC c = { c with dp := c.dp - 1 } from rfl]
    refine hgo_sound 90 ?_
    simp -implicitDefEqProofs (maxSteps := 1000000) only [simpS, ↓condJ_true, ↓condJ_false, ↓reduceIte, Nat.reduceEqDiff, Nat.reduceLT, Nat.reduceLeDiff, reduceCtorEq, Nat.reduceAdd, Nat.reduceSub, noneS, listS, implies_true, forall_const, ne_eq, d1, hw]
    exact fp_cell (by rw [hnx]; exact Nat.le_refl _) hwf (((Ext.refl _).new _).new _) rfl (by simp [St.obj_new, St.next_new]; rfl) rfl (encR_lt { c with dp := c.dp - 1 } _)
  · have d1 : decide ((c.dp : Int) > 0) = false := decide_eq_false (by omega)
    have hz : upC c = c := by unfold upC; rw [show c.dp - 1 = c.dp by omega]
    rw [hz]
    refine hgo_sound 90 ?_
    simp -implicitDefEqProofs (maxSteps := 1000000) only [simpS, ↓condJ_true, ↓condJ_false, ↓reduceIte, Nat.reduceEqDiff, Nat.reduceLT, Nat.reduceLeDiff, reduceCtorEq, Nat.reduceAdd, Nat.reduceSub, noneS, listS, implies_true, forall_const, ne_eq, d1]
    exact fp_cell (by rw [hnx]; exact Nat.le_refl _) hwf (((Ext.refl _).new _).new _) rfl (by simp [St.obj_new, St.next_new]; rfl) rfl (encR_lt c _)

theorem rdown_calls (c : Cu) (hc : c.ok) (hd : c.dp ≤ 200) (σ : St) : HCalls Tryz.prog 14 [.agg (encR c)] σ (fun d σ' => d = .tuple [.agg (encR (downC c).1), .bool (downC c).2] ∧ σ' = σ) := by
  refine hcalls_body (fn := Tryz.f14) rfl c14 (by simp [h14]) (by simp [h14, Tryz.f14]) ?_
  intro M hP hr hnt hnx hwf hlt
  simp only [h14, argEnv]
  have hnt' : M.nt = 18 := hnt
  by_cases he : c.er = 0
  · have e1 : ((c.er : Int) != 0) = false := by rw [he]; rfl
    by_cases h1 : 200 ≤ c.dp
    · have d1 : ((c.dp : Int) == 200) = true := by simp; omega
      have hf : downC c = (failC c 3, false) := by unfold downC; rw [if_pos he, if_pos h1]
      rw [hf]
      refine hgo_sound 90 ?_
      simp -implicitDefEqProofs (maxSteps := 1000000) only [simpS, ↓condJ_true, ↓condJ_false, ↓reduceIte, Nat.reduceEqDiff, Nat.reduceLT, Nat.reduceLeDiff, reduceCtorEq, Nat.reduceAdd, Nat.reduceSub, noneS, listS, implies_true, forall_const, ne_eq, e1, d1]
      refine hx_call (f := .fn 18) rfl (by rw [hP]; exact hcallD_func (rfail_calls c hc 3 _)) ?_
      rintro _ σ2 ⟨rfl, h⟩
      subst σ2
      refine hgo_sound 90 ?_
      simp -implicitDefEqProofs (maxSteps := 1000000) only [simpS, ↓condJ_true, ↓condJ_false, ↓reduceIte, Nat.reduceEqDiff, Nat.reduceLT, Nat.reduceLeDiff, reduceCtorEq, Nat.reduceAdd, Nat.reduceSub, noneS, listS, implies_true, forall_const, ne_eq]
      exact fp_cellT (by rw [hnx]; exact Nat.le_refl _) hwf (((Ext.refl _).new _).new _) rfl (by simp [St.obj_new, St.next_new]; rfl) rfl (encR_lt _ _) rfl trivial
    · have d1 : ((c.dp : Int) == 200) = false := by simp; omega
      have hf : downC c = ({ c with dp := c.dp + 1 }, true) := by unfold downC; rw [if_pos he, if_neg h1]
      have hw : IntKind.i64.wrap ((c.dp : Int) + 1) = ((c.dp + 1 : Nat) : Int) := by rw [IntWalk.i64_in _ (by omega)]; rfl
      rw [hf]
      refine hgo_sound 90 ?_
      simp -implicitDefEqProofs (maxSteps := 1000000) only [simpS, ↓condJ_true, ↓condJ_false, ↓reduceIte, Nat.reduceEqDiff, Nat.reduceLT, Nat.reduceLeDiff, reduceCtorEq, Nat.reduceAdd, Nat.reduceSub, noneS, listS, implies_true, forall_const, ne_eq, e1, d1, hw]
      exact fp_cellT (by rw [hnx]; exact Nat.le_refl _) hwf (((Ext.refl _).new _).new _) rfl (by simp [St.obj_new, St.next_new]; rfl) rfl (encR_lt { c with dp := c.dp + 1 } _) rfl trivial
  · have e1 : ((c.er : Int) != 0) = true := by simp; omega
    have hf : downC c = (c, false) := by unfold downC; rw [if_neg he]
    rw [hf]
    refine hgo_sound 90 ?_
    simp -implicitDefEqProofs (maxSteps := 1000000) only [simpS, ↓condJ_true, ↓condJ_false, ↓reduceIte, Nat.reduceEqDiff, Nat.reduceLT, Nat.reduceLeDiff, reduceCtorEq, Nat.reduceAdd, Nat.reduceSub, noneS, listS, implies_true, forall_const, ne_eq, e1]
    exact fp_cellT (by rw [hnx]; exact Nat.le_refl _) hwf (((Ext.refl _).new _).new _) rfl (by simp [St.obj_new, St.next_new]; rfl) rfl (encR_lt c _) rfl trivial

def Cu.lok (c : Cu) : Prop := c.la = if c.n = 0 then 0 else (c.L.getD (c.n - 1) ⟨0, 0, 0⟩).t
theorem lok_fail {c : Cu} (h : c.lok) (e : Int) : (failC c e).lok := by
  unfold failC
  split
  · exact h
  · exact h
theorem lok_take {c : Cu} (h : c.lok) (w : Bool) : (takeC c w).1.lok := by
  unfold takeC
  split
  · rename_i hw
    unfold Cu.lok
    simp only [Nat.add_one_ne_zero, if_false, Nat.add_sub_cancel]
  · exact lok_fail h 2
theorem lok_down {c : Cu} (h : c.lok) : (downC c).1.lok := by
  unfold downC
  split
  · split
    · exact lok_fail h 3
    · exact h
  · exact h
theorem lok_up {c : Cu} (h : c.lok) : (upC c).lok := h
theorem lok_start (s : ByteArray) : (startC s).lok := rfl

theorem rlast_calls (c : Cu) (hc : c.ok) (hl : c.lok) (σ : St) : HCalls Tryz.prog 42 [.agg (encR c)] σ (fun d σ' => d = .int .i64 (c.la : Int) ∧ σ' = σ) := by
  refine hcalls_body (fn := Tryz.f42) rfl c42 (by simp [h42]) (by simp [h42, Tryz.f42]) ?_
  intro M hP hr hnt hnx hwf hlt
  simp only [h42, argEnv]
  have hnt' : M.nt = 14 := hnt
  unfold Cu.lok at hl
  rw [hl]
  by_cases h0 : c.n = 0
  · have e0 : ((c.n : Int) == 0) = true := by rw [h0]; rfl
    rw [if_pos h0]
    refine hgo_sound 90 ?_
    simp -implicitDefEqProofs (maxSteps := 1000000) only [simpS, ↓condJ_true, ↓condJ_false, ↓reduceIte, Nat.reduceEqDiff, Nat.reduceLT, Nat.reduceLeDiff, reduceCtorEq, Nat.reduceAdd, Nat.reduceSub, noneS, listS, implies_true, forall_const, ne_eq, e0]
    exact fpost_pure (σ0 := σ) (.inr rfl) (by rw [hnx]; exact Nat.le_refl _) hwf (by first | exact Sub.refl σ | exact (((Ext.refl _).new _).sub hwf)) rfl trivial (by repeat' (first | trivial | apply And.intro)) ⟨rfl, rfl⟩
  · have e0 : ((c.n : Int) == 0) = false := by simp; omega
    have hnl := hc.next
    have hj : c.n - 1 < c.L.length := by omega
    have hg := encTk_get c.L (c.n - 1) hj
    have hw : IntKind.i64.wrap ((c.n : Int) - 1) = ((c.n - 1 : Nat) : Int) := by
      have := hc.len; have := hc.small
      rw [IntWalk.i64_in _ (by omega)]; omega
    have hlt2 : ((c.n - 1 : Nat) : Int) < (c.L.length : Int) := by omega
    have hgd : c.L.getD (c.n - 1) ⟨0, 0, 0⟩ = c.L[c.n - 1] := by simp [List.getD, hj]
    rw [if_neg h0, hgd]
    refine hgo_sound 90 ?_
    simp -implicitDefEqProofs (maxSteps := 1000000) only [simpS, ↓condJ_true, ↓condJ_false, ↓reduceIte, Nat.reduceEqDiff, Nat.reduceLT, Nat.reduceLeDiff, reduceCtorEq, Nat.reduceAdd, Nat.reduceSub, noneS, listS, implies_true, forall_const, ne_eq, e0, hw, encTk_length, hg, hlt2, Int.toNat_natCast, Int.natCast_nonneg]
    exact fpost_pure (σ0 := σ) (.inr rfl) (by rw [hnx]; exact Nat.le_refl _) hwf (by first | exact Sub.refl σ | exact (((Ext.refl _).new _).sub hwf)) rfl trivial (by repeat' (first | trivial | apply And.intro)) ⟨rfl, rfl⟩

theorem rend_calls (c : Cu) (hc : c.ok) (hl : c.lok) (σ : St) : HCalls Tryz.prog 37 [.agg (encR c)] σ (fun d σ' => d = .str (endC c) ∧ σ' = σ) := by
  refine hcalls_body (fn := Tryz.f37) rfl c37 (by simp [h37]) (by simp [h37, Tryz.f37]) ?_
  intro M hP hr hnt hnx hwf hlt
  simp only [h37, argEnv]
  have hnt' : M.nt = 16 := hnt
  by_cases he : c.er = 0
  · have e1 : ((c.er : Int) != 0) = false := by rw [he]; rfl
    by_cases h1 : leftC c = 0
    · have d1 : decide ((leftC c : Int) > 0) = false := decide_eq_false (by omega)
      have hf : endC c = c.s.extract c.la c.s.size := by unfold endC; rw [if_pos ⟨he, h1⟩]
      have hla := hc.last
      have p1 : (c.la : Int) ≤ (c.s.size : Int) := by omega
      rw [hf]
      refine hgo_sound 90 ?_
      simp -implicitDefEqProofs (maxSteps := 1000000) only [simpS, ↓condJ_true, ↓condJ_false, ↓reduceIte, Nat.reduceEqDiff, Nat.reduceLT, Nat.reduceLeDiff, reduceCtorEq, Nat.reduceAdd, Nat.reduceSub, noneS, listS, implies_true, forall_const, ne_eq, e1]
      refine hx_call (f := .fn 35) rfl (by rw [hP]; exact hcallD_func (rleft_calls c hc _)) ?_
      rintro _ σ2 ⟨rfl, h⟩
      subst σ2
      refine hgo_sound 90 ?_
      simp -implicitDefEqProofs (maxSteps := 1000000) only [simpS, ↓condJ_true, ↓condJ_false, ↓reduceIte, Nat.reduceEqDiff, Nat.reduceLT, Nat.reduceLeDiff, reduceCtorEq, Nat.reduceAdd, Nat.reduceSub, noneS, listS, implies_true, forall_const, ne_eq, d1]
      refine hx_drawgo 1 ?_
      simp -implicitDefEqProofs (maxSteps := 100000000) only [drawS, listS, List.getElem?_cons_zero, List.getElem?_cons_succ, List.getElem?_nil, simpS, ↓condJ_true, ↓condJ_false, ↓reduceIte, Nat.reduceEqDiff, Nat.reduceLT, Nat.reduceLeDiff, reduceCtorEq, Nat.reduceAdd, Nat.reduceSub, noneS, listS, implies_true, forall_const, ne_eq, hnt', p1, Int.toNat_natCast, Int.natCast_nonneg]
      refine hd_call (i := 3) (f := .fn 42) (by simp -implicitDefEqProofs (maxSteps := 100000000) only [drawS, listS, List.getElem?_cons_zero, List.getElem?_cons_succ, List.getElem?_nil, simpS, ↓condJ_true, ↓condJ_false, ↓reduceIte, Nat.reduceEqDiff, Nat.reduceLT, Nat.reduceLeDiff, reduceCtorEq, Nat.reduceAdd, Nat.reduceSub, noneS, listS, implies_true, forall_const, ne_eq, hnt', p1, Int.toNat_natCast, Int.natCast_nonneg]) (by rfl) (by rfl) rfl (by rfl) (by rw [hP]; exact hcallD_func (rlast_calls c hc hl _)) ?_
      rintro _ σ2 ⟨rfl, h⟩
      subst σ2
      refine hdgo_sound 1 ?_
      simp -implicitDefEqProofs (maxSteps := 3000000) only [drawS, listS, List.getElem?_cons_zero, List.getElem?_cons_succ, List.getElem?_nil, simpS, ↓condJ_true, ↓condJ_false, ↓reduceIte, Nat.reduceEqDiff, Nat.reduceLT, Nat.reduceLeDiff, reduceCtorEq, Nat.reduceAdd, Nat.reduceSub, noneS, listS, implies_true, forall_const, ne_eq, hnt', p1, Int.toNat_natCast, Int.natCast_nonneg]
      refine hgo_sound 60 ?_
      simp -implicitDefEqProofs (maxSteps := 1000000) only [simpS, ↓condJ_true, ↓condJ_false, ↓reduceIte, Nat.reduceEqDiff, Nat.reduceLT, Nat.reduceLeDiff, reduceCtorEq, Nat.reduceAdd, Nat.reduceSub, noneS, listS, implies_true, forall_const, ne_eq]
      exact fpost_pure (σ0 := σ) (.inr rfl) (by rw [hnx]; exact Nat.le_refl _) hwf (by first | exact Sub.refl σ | exact (((Ext.refl _).new _).sub hwf)) rfl trivial (by repeat' (first | trivial | apply And.intro)) ⟨rfl, rfl⟩
    · have d1 : decide ((leftC c : Int) > 0) = true := decide_eq_true (by omega)
      have hf : endC c = ⟨#[]⟩ := by unfold endC; rw [if_neg (fun h => h1 h.2)]
      rw [hf]
      refine hgo_sound 90 ?_
      simp -implicitDefEqProofs (maxSteps := 1000000) only [simpS, ↓condJ_true, ↓condJ_false, ↓reduceIte, Nat.reduceEqDiff, Nat.reduceLT, Nat.reduceLeDiff, reduceCtorEq, Nat.reduceAdd, Nat.reduceSub, noneS, listS, implies_true, forall_const, ne_eq, e1]
      refine hx_call (f := .fn 35) rfl (by rw [hP]; exact hcallD_func (rleft_calls c hc _)) ?_
      rintro _ σ2 ⟨rfl, h⟩
      subst σ2
      refine hgo_sound 90 ?_
      simp -implicitDefEqProofs (maxSteps := 1000000) only [simpS, ↓condJ_true, ↓condJ_false, ↓reduceIte, Nat.reduceEqDiff, Nat.reduceLT, Nat.reduceLeDiff, reduceCtorEq, Nat.reduceAdd, Nat.reduceSub, noneS, listS, implies_true, forall_const, ne_eq, d1]
      exact fpost_pure (σ0 := σ) (.inr rfl) (by rw [hnx]; exact Nat.le_refl _) hwf (by first | exact Sub.refl σ | exact (((Ext.refl _).new _).sub hwf)) rfl trivial (by repeat' (first | trivial | apply And.intro)) ⟨rfl, rfl⟩
  · have e1 : ((c.er : Int) != 0) = true := by simp; omega
    have hf : endC c = ⟨#[]⟩ := by unfold endC; rw [if_neg (fun h => he h.1)]
    rw [hf]
    refine hgo_sound 90 ?_
    simp -implicitDefEqProofs (maxSteps := 1000000) only [simpS, ↓condJ_true, ↓condJ_false, ↓reduceIte, Nat.reduceEqDiff, Nat.reduceLT, Nat.reduceLeDiff, reduceCtorEq, Nat.reduceAdd, Nat.reduceSub, noneS, listS, implies_true, forall_const, ne_eq, e1]
    exact fpost_pure (σ0 := σ) (.inr rfl) (by rw [hnx]; exact Nat.le_refl _) hwf (by first | exact Sub.refl σ | exact (((Ext.refl _).new _).sub hwf)) rfl trivial (by repeat' (first | trivial | apply And.intro)) ⟨rfl, rfl⟩

end Go.Hl
