/-
  Layer 6: the real tokens; the law LexReals.
-/
import Derived.Test.YtijcddlahidhhaaGreatDoorLxE
import Derived.Test.YtijcddlahidhhaaGreatDoorHlP
import Derived.Test.YtijcddlahidhhaaGreatDoorCodes
import Derived.Test.YtijcddlahidhhaaGreatDoorHlS
import Derived.IntWalk
set_option linter.unusedSectionVars false
set_option linter.unusedVariables false
set_option linter.unusedSimpArgs false
set_option maxRecDepth 100000

namespace Go.Hl
open Go Go.Proofs Go.RowKit

def badAt : List Tk3 → Option Nat
  | [] => none
  | x :: r => if x.k = 7 then some x.f else badAt r
def isReal (x : Tk3) : Bool := decide (2 < x.k)
def realsL (l : List Tk3) : List Tk3 := l.filter isReal

theorem wordK_pos (s : ByteArray) : 1 ≤ wordK s ∧ wordK s ≤ 7 := by
  unfold wordK
  split
  · simp
  split
  · simp
  split <;> simp
theorem lexN_kind (l : List UInt8) : 1 ≤ (lexN l).1 ∧ (lexN l).1 ≤ 7 := by
  unfold lexN
  split
  · simp
  split
  · simp
  split
  · split <;> simp
  split
  · simp
  split
  · exact wordK_pos _
  split
  · simp
  split <;> simp
theorem toks_kind : ∀ (n : Nat) (l : List UInt8) (a : Nat), l.length ≤ n → ∀ x ∈ toks l a, 1 ≤ x.k ∧ x.k ≤ 7 ∧ a ≤ x.f ∧ x.f < x.t ∧ x.t ≤ a + l.length
  | 0, l, a, h, x, hx => by
    have : l = [] := List.length_eq_zero_iff.1 (by omega)
    subst this
    simp [toks_nil] at hx
  | n + 1, l, a, h, x, hx => by
    by_cases hl : l = []
    · subst hl; simp [toks_nil] at hx
    · have h1 := lexN_len l hl
      have h2 := lexN_kind l
      rw [toks_cons l a hl] at hx
      rcases List.mem_cons.1 hx with rfl | hx
      · simp only; omega
      · have := toks_kind n (l.drop (lexN l).2) (a + (lexN l).2) (by rw [List.length_drop]; omega) x hx
        rw [List.length_drop] at this
        omega
theorem toksS (s : ByteArray) : ∀ x ∈ toks s.data.toList 0, 1 ≤ x.k ∧ x.k ≤ 7 ∧ x.f < x.t ∧ x.t ≤ s.size := fun x hx => by
  have := toks_kind s.size s.data.toList 0 (by rw [len_list]; exact Nat.le_refl _) x hx
  rw [len_list] at this
  omega

theorem realsL_le (l : List Tk3) : (realsL l).length ≤ l.length := List.length_filter_le _ _

def realR (l : List Tk3) : List Tk3 := match badAt l with | some _ => [] | none => realsL l
def realA (l : List Tk3) : Nat := match badAt l with | some f => f | none => 0
def realE (l : List Tk3) : Int := match badAt l with | some f => 2 | none => 0

structure RqS where
  c : List Tk3
  b : Option Nat

def rqStep (t : RqS) (x : Tk3) : RqS × Option HC :=
  if x.k = 7 then (⟨t.c, some x.f⟩, some .ret) else if x.k = 1 ∨ x.k = 2 then (t, none) else (⟨t.c ++ [x], t.b⟩, none)
theorem rqStep_run : ∀ (l : List Tk3) (c : List Tk3), (∀ x ∈ l, 1 ≤ x.k) →
    ∃ c', rngRun rqStep ⟨c, none⟩ l = match badAt l with | some f => (⟨c', some f⟩, some .ret) | none => (⟨c ++ realsL l, none⟩, none)
  | [], c, _ => ⟨c, by simp [rngRun, badAt, realsL]⟩
  | x :: l, c, h => by
    have hx := h x (List.mem_cons_self ..)
    have hl : ∀ y ∈ l, 1 ≤ y.k := fun y hy => h y (List.mem_cons_of_mem _ hy)
    simp only [rngRun, rqStep, badAt]
    by_cases h7 : x.k = 7
    · rw [if_pos h7, if_pos h7]
      exact ⟨c, rfl⟩
    · rw [if_neg h7, if_neg h7]
      by_cases h12 : x.k = 1 ∨ x.k = 2
      · rw [if_pos h12]
        simp only
        obtain ⟨c', hc⟩ := rqStep_run l c hl
        have hf : isReal x = false := by unfold isReal; exact decide_eq_false (by omega)
        refine ⟨c', ?_⟩
        rw [hc]
        simp only [realsL, List.filter_cons, hf, Bool.false_eq_true, if_false]
      · rw [if_neg h12]
        simp only
        obtain ⟨c', hc⟩ := rqStep_run l (c ++ [x]) hl
        have hf : isReal x = true := by unfold isReal; exact decide_eq_true (by omega)
        refine ⟨c', ?_⟩
        rw [hc]
        simp only [realsL, List.filter_cons, hf, if_true, List.append_assoc, List.cons_append, List.nil_append]
theorem rqStep_oks : ∀ (l : List Tk3) (t : RqS), t.b = none → t.c.length + l.length ≤ 1073741824 → rngOks (fun (t : RqS) (x : Tk3) => t.c.length + 1 ≤ 1073741824 ∧ t.b = none) rqStep t l
  | [], t, _, _ => trivial
  | x :: xs, t, hb, h => by
    simp only [List.length_cons] at h
    refine ⟨⟨by omega, hb⟩, fun hn => ?_⟩
    unfold rqStep at hn ⊢
    split
    · rename_i h7
      rw [if_pos h7] at hn
      cases hn
    · split
      · exact rqStep_oks xs t hb (by omega)
      · exact rqStep_oks xs _ hb (by simp only [List.length_append, List.length_cons, List.length_nil]; omega)

def rqErr : Option Nat → D
  | some _ => .iface 55 (.int .i64 2)
  | none => .nili
def rqAt : Option Nat → Int
  | some f => f
  | none => 0
def rqS (σ : St) (t : RqS) : St :=
  ((((σ.new (.bx none [.slice .nil 0 []])).new (.bx none [.int .i64 (rqAt t.b)])).new (.bx none [rqErr t.b])).new (.bx none [.slice (.tok (σ.next + 4)) 3 (encTk t.c)])).new (.tok 88 t.c.length)
theorem rqS_next (σ : St) (t : RqS) : (rqS σ t).next = σ.next + 5 := rfl
theorem rqS_wf {σ : St} (hw : σ.wf) (t : RqS) : (rqS σ t).wf := by
  refine St.wf.new2 (((hw.box (cs := [.slice .nil 0 []]) ⟨⟨trivial, trivial⟩, trivial⟩).box (cs := [.int .i64 (rqAt t.b)]) ⟨trivial, trivial⟩).box (cs := [rqErr t.b]) ⟨by cases t.b <;> trivial, trivial⟩) ?_ trivial
  refine ⟨⟨?_, encTk_lt _ _⟩, trivial⟩
  show σ.next + 4 < σ.next + 3 + 2
  omega
theorem rqS_ext (σ : St) (t : RqS) : Ext σ (rqS σ t) := (((((Ext.refl σ).new _).new _).new _).new _).new _
theorem rqS_0 (σ : St) (t : RqS) : (rqS σ t).obj σ.next = some (.bx none [.slice .nil 0 []]) := by simp only [rqS, simpS, ↓condJ_true, ↓condJ_false, ↓reduceIte, Nat.reduceEqDiff, Nat.reduceLT, Nat.reduceLeDiff, reduceCtorEq, Nat.reduceAdd, Nat.reduceSub, bindG_none, addG_none, hgrpK_none, nestK_none, hgrpK_guarded, Option.map_none, beq_self_eq_true, bne_self_eq_false, Option.map_some, if_true, if_false, List.getD_cons_zero, List.getD_cons_succ, List.length_cons, List.length_nil, List.mem_cons, List.not_mem_nil, List.mem_append, List.nil_append, List.cons_append, List.append_nil, List.take_succ_cons, List.take_zero, List.drop_succ_cons, List.drop_zero, List.set_cons_zero, List.set_cons_succ, List.map_cons, List.map_nil, implies_true, forall_const, ne_eq]
theorem rqS_1 (σ : St) (t : RqS) : (rqS σ t).obj (σ.next + 1) = some (.bx none [.int .i64 (rqAt t.b)]) := by simp only [rqS, simpS, ↓condJ_true, ↓condJ_false, ↓reduceIte, Nat.reduceEqDiff, Nat.reduceLT, Nat.reduceLeDiff, reduceCtorEq, Nat.reduceAdd, Nat.reduceSub, bindG_none, addG_none, hgrpK_none, nestK_none, hgrpK_guarded, Option.map_none, beq_self_eq_true, bne_self_eq_false, Option.map_some, if_true, if_false, List.getD_cons_zero, List.getD_cons_succ, List.length_cons, List.length_nil, List.mem_cons, List.not_mem_nil, List.mem_append, List.nil_append, List.cons_append, List.append_nil, List.take_succ_cons, List.take_zero, List.drop_succ_cons, List.drop_zero, List.set_cons_zero, List.set_cons_succ, List.map_cons, List.map_nil, implies_true, forall_const, ne_eq]
theorem rqS_2 (σ : St) (t : RqS) : (rqS σ t).obj (σ.next + 2) = some (.bx none [rqErr t.b]) := by simp only [rqS, simpS, ↓condJ_true, ↓condJ_false, ↓reduceIte, Nat.reduceEqDiff, Nat.reduceLT, Nat.reduceLeDiff, reduceCtorEq, Nat.reduceAdd, Nat.reduceSub, bindG_none, addG_none, hgrpK_none, nestK_none, hgrpK_guarded, Option.map_none, beq_self_eq_true, bne_self_eq_false, Option.map_some, if_true, if_false, List.getD_cons_zero, List.getD_cons_succ, List.length_cons, List.length_nil, List.mem_cons, List.not_mem_nil, List.mem_append, List.nil_append, List.cons_append, List.append_nil, List.take_succ_cons, List.take_zero, List.drop_succ_cons, List.drop_zero, List.set_cons_zero, List.set_cons_succ, List.map_cons, List.map_nil, implies_true, forall_const, ne_eq]
theorem rqS_3 (σ : St) (t : RqS) : (rqS σ t).obj (σ.next + 3) = some (.bx none [.slice (.tok (σ.next + 4)) 3 (encTk t.c)]) := by simp only [rqS, simpS, ↓condJ_true, ↓condJ_false, ↓reduceIte, Nat.reduceEqDiff, Nat.reduceLT, Nat.reduceLeDiff, reduceCtorEq, Nat.reduceAdd, Nat.reduceSub, bindG_none, addG_none, hgrpK_none, nestK_none, hgrpK_guarded, Option.map_none, beq_self_eq_true, bne_self_eq_false, Option.map_some, if_true, if_false, List.getD_cons_zero, List.getD_cons_succ, List.length_cons, List.length_nil, List.mem_cons, List.not_mem_nil, List.mem_append, List.nil_append, List.cons_append, List.append_nil, List.take_succ_cons, List.take_zero, List.drop_succ_cons, List.drop_zero, List.set_cons_zero, List.set_cons_succ, List.map_cons, List.map_nil, implies_true, forall_const, ne_eq]
theorem rqS_4 (σ : St) (t : RqS) : (rqS σ t).obj (σ.next + 4) = some (.tok 88 t.c.length) := by simp only [rqS, simpS, ↓condJ_true, ↓condJ_false, ↓reduceIte, Nat.reduceEqDiff, Nat.reduceLT, Nat.reduceLeDiff, reduceCtorEq, Nat.reduceAdd, Nat.reduceSub, bindG_none, addG_none, hgrpK_none, nestK_none, hgrpK_guarded, Option.map_none, beq_self_eq_true, bne_self_eq_false, Option.map_some, if_true, if_false, List.getD_cons_zero, List.getD_cons_succ, List.length_cons, List.length_nil, List.mem_cons, List.not_mem_nil, List.mem_append, List.nil_append, List.cons_append, List.append_nil, List.take_succ_cons, List.take_zero, List.drop_succ_cons, List.drop_zero, List.set_cons_zero, List.set_cons_succ, List.map_cons, List.map_nil, implies_true, forall_const, ne_eq]

set_option maxHeartbeats 4000000 in
theorem real_calls (s : ByteArray) (hs : s.size ≤ 1073741824) (σ : St) (hg : GM σ) : HCalls Tryz.prog 21 [.str s] σ (fun d σ' => d = .tuple [.slice .no 3 (encTk (realR (toks s.data.toList 0))), .int .i64 (realA (toks s.data.toList 0) : Nat), erD (realE (toks s.data.toList 0))] ∧ σ' = σ) := by
  refine hcalls_body (fn := Tryz.f21) rfl c21 (by simp [h21]) (by simp [h21, Tryz.f21]) ?_
  intro M hP hr hnt hnx hwf hlt
  simp only [h21, argEnv]
  have hit := all_iter s hs σ.glob (fun _ h => hg.to h)
  have hkd : ∀ x ∈ toks s.data.toList 0, 1 ≤ x.k := fun x hx => (toksS s x hx).1
  have hle := toks_le s
  obtain ⟨c', hrun⟩ := rqStep_run (toks s.data.toList 0) [] hkd
  unfold realR realA realE
  generalize toks s.data.toList 0 = W at *
  refine hgo_sound 10 ?_
  simp -implicitDefEqProofs (maxSteps := 1000000) only [simpS, ↓condJ_true, ↓condJ_false, ↓reduceIte, Nat.reduceEqDiff, Nat.reduceLT, Nat.reduceLeDiff, reduceCtorEq, Nat.reduceAdd, Nat.reduceSub, bindG_none, addG_none, hgrpK_none, nestK_none, hgrpK_guarded, Option.map_none, beq_self_eq_true, bne_self_eq_false, Option.map_some, if_true, if_false, List.getD_cons_zero, List.getD_cons_succ, List.length_cons, List.length_nil, List.mem_cons, List.not_mem_nil, List.mem_append, List.nil_append, List.cons_append, List.append_nil, List.take_succ_cons, List.take_zero, List.drop_succ_cons, List.drop_zero, List.set_cons_zero, List.set_cons_succ, List.map_cons, List.map_nil, implies_true, forall_const, ne_eq]
  refine hx_full_box (id := σ.next + 3) (j := 0) (cs := [.slice .nil 0 []]) (ot := none) 88 3 (by simp -implicitDefEqProofs (maxSteps := 1000000) only [simpS, ↓condJ_true, ↓condJ_false, ↓reduceIte, Nat.reduceEqDiff, Nat.reduceLT, Nat.reduceLeDiff, reduceCtorEq, Nat.reduceAdd, Nat.reduceSub, bindG_none, addG_none, hgrpK_none, nestK_none, hgrpK_guarded, Option.map_none, beq_self_eq_true, bne_self_eq_false, Option.map_some, if_true, if_false, List.getD_cons_zero, List.getD_cons_succ, List.length_cons, List.length_nil, List.mem_cons, List.not_mem_nil, List.mem_append, List.nil_append, List.cons_append, List.append_nil, List.take_succ_cons, List.take_zero, List.drop_succ_cons, List.drop_zero, List.set_cons_zero, List.set_cons_succ, List.map_cons, List.map_nil, implies_true, forall_const, ne_eq]) rfl ?_ (fun _ e => by cases e) (fun _ e => by cases e)
  refine hgo_sound 8 ?_
  simp -implicitDefEqProofs (maxSteps := 1000000) only [simpS, ↓condJ_true, ↓condJ_false, ↓reduceIte, Nat.reduceEqDiff, Nat.reduceLT, Nat.reduceLeDiff, reduceCtorEq, Nat.reduceAdd, Nat.reduceSub, bindG_none, addG_none, hgrpK_none, nestK_none, hgrpK_guarded, Option.map_none, beq_self_eq_true, bne_self_eq_false, Option.map_some, if_true, if_false, List.getD_cons_zero, List.getD_cons_succ, List.length_cons, List.length_nil, List.mem_cons, List.not_mem_nil, List.mem_append, List.nil_append, List.cons_append, List.append_nil, List.take_succ_cons, List.take_zero, List.drop_succ_cons, List.drop_zero, List.set_cons_zero, List.set_cons_succ, List.map_cons, List.map_nil, implies_true, forall_const, ne_eq]
  refine hx_call (f := .fn 38) rfl (by rw [hP]; exact hcallD_func (all_calls s _)) ?_
  rintro _ σ2 ⟨rfl, h⟩
  subst σ2
  refine hgo_sound 6 ?_
  simp -implicitDefEqProofs (maxSteps := 1000000) only [simpS, ↓condJ_true, ↓condJ_false, ↓reduceIte, Nat.reduceEqDiff, Nat.reduceLT, Nat.reduceLeDiff, reduceCtorEq, Nat.reduceAdd, Nat.reduceSub, bindG_none, addG_none, hgrpK_none, nestK_none, hgrpK_guarded, Option.map_none, beq_self_eq_true, bne_self_eq_false, Option.map_some, if_true, if_false, List.getD_cons_zero, List.getD_cons_succ, List.length_cons, List.length_nil, List.mem_cons, List.not_mem_nil, List.mem_append, List.nil_append, List.cons_append, List.append_nil, List.take_succ_cons, List.take_zero, List.drop_succ_cons, List.drop_zero, List.set_cons_zero, List.set_cons_succ, List.map_cons, List.map_nil, implies_true, forall_const, ne_eq]
  refine hx_know_code fun hw hl hn => ?_
  refine hx_range_foldA (fn := 43) (caps := [.eptr [.str s] 0]) (xs := W) (enc := fun x => [D.agg (encK3 x)]) (fun t : RqS => rqS σ t)
    (fun (t : RqS) (x : Tk3) => t.c.length + 1 ≤ 1073741824 ∧ t.b = none) rqStep ⟨[], none⟩ rfl (by rw [hP]; rfl) (fun _ _ h => by rw [hr] at h; cases h) (by rw [hP]; exact hit) ?_
    (fun c => rfl) (fun c c' => rfl) (fun t => rqS_wf hwf t) hl (rqStep_oks _ _ rfl (by simp only [List.length_nil]; omega)) (fun _ => rfl) (by rw [hnt]; decide) ?_ ?_
  · refine St.ext' (fun q => ?_) rfl rfl
    simp only [rqS, St.obj_new, St.obj_put, St.next_new, Nat.add_assoc, Nat.reduceAdd, rqAt, rqErr]
    by_cases q1 : q = σ.next + 3
    · simp [q1, encTk]
    · by_cases q2 : q = σ.next + 4 <;> simp [q1, q2]
  · rintro ⟨c, bo⟩ x ρ ⟨hk, rfl⟩ hle2 hτ hgl2 M' hP' hnt2 hr' hnx' hwf' hlt'
    simp only at hk
    simp only [St.next_new, St.next_put, Nat.add_assoc, Nat.reduceAdd, rqS_next] at hle2 hl ⊢
    simp only [putsE]
    have hnt3 : M'.nt = 25 := by rw [hnt2]; exact hnt
    have n1 : ¬ ρ.next < σ.next + 6 := by omega
    have n2 : ¬ ρ.next + 1 < σ.next + 6 := by omega
    have hsz : (c.length + 1) * 24 ≤ 140737488355328 := by omega
    have hsz2 : c.length + 1 ≤ 9223372036854775807 := by omega
    unfold rqStep
    by_cases h7 : x.k = 7
    · have hb7 : ((x.k : Int) == 7) = true := by rw [h7]; rfl
      rw [if_pos h7]
      refine hgo_sound 60 ?_
      simp -implicitDefEqProofs (maxSteps := 1000000) only [simpS, ↓condJ_true, ↓condJ_false, ↓reduceIte, Nat.reduceEqDiff, Nat.reduceLT, Nat.reduceLeDiff, reduceCtorEq, Nat.reduceAdd, Nat.reduceSub, bindG_none, addG_none, hgrpK_none, nestK_none, hgrpK_guarded, Option.map_none, beq_self_eq_true, bne_self_eq_false, Option.map_some, if_true, if_false, List.getD_cons_zero, List.getD_cons_succ, List.length_cons, List.length_nil, List.mem_cons, List.not_mem_nil, List.mem_append, List.nil_append, List.cons_append, List.append_nil, List.take_succ_cons, List.take_zero, List.drop_succ_cons, List.drop_zero, List.set_cons_zero, List.set_cons_succ, List.map_cons, List.map_nil, implies_true, forall_const, ne_eq, hle2, n1, rqS_next]
      refine hgo_sound 60 ?_
      simp -implicitDefEqProofs (maxSteps := 1000000) only [simpS, ↓condJ_true, ↓condJ_false, ↓reduceIte, Nat.reduceEqDiff, Nat.reduceLT, Nat.reduceLeDiff, reduceCtorEq, Nat.reduceAdd, Nat.reduceSub, bindG_none, addG_none, hgrpK_none, nestK_none, hgrpK_guarded, Option.map_none, beq_self_eq_true, bne_self_eq_false, Option.map_some, if_true, if_false, List.getD_cons_zero, List.getD_cons_succ, List.length_cons, List.length_nil, List.mem_cons, List.not_mem_nil, List.mem_append, List.nil_append, List.cons_append, List.append_nil, List.take_succ_cons, List.take_zero, List.drop_succ_cons, List.drop_zero, List.set_cons_zero, List.set_cons_succ, List.map_cons, List.map_nil, implies_true, forall_const, ne_eq, hle2, n1, n2, rqS_next, hb7]
      refine hx_drawgo 4 ?_
      simp -implicitDefEqProofs (maxSteps := 3000000) only [drawS, List.map_cons, List.map_nil, List.getElem?_cons_zero, List.getElem?_cons_succ, List.getElem?_nil, simpS, ↓condJ_true, ↓condJ_false, ↓reduceIte, Nat.reduceEqDiff, Nat.reduceLT, Nat.reduceLeDiff, reduceCtorEq, Nat.reduceAdd, Nat.reduceSub, bindG_none, addG_none, hgrpK_none, nestK_none, hgrpK_guarded, Option.map_none, beq_self_eq_true, bne_self_eq_false, Option.map_some, if_true, if_false, List.getD_cons_zero, List.getD_cons_succ, List.length_cons, List.length_nil, List.mem_cons, List.not_mem_nil, List.mem_append, List.nil_append, List.cons_append, List.append_nil, List.take_succ_cons, List.take_zero, List.drop_succ_cons, List.drop_zero, List.set_cons_zero, List.set_cons_succ, List.map_cons, List.map_nil, implies_true, forall_const, ne_eq, hnt3, hle2, n1, n2, rqS_next, rqS_0, rqS_1, rqS_2, rqS_3, rqS_4]
      refine hx_ret (round_ret (n := σ.next + 5) ?_ rfl (rqS_wf hwf ⟨c, some x.f⟩) hl hτ hle2 ((Ext.refl ρ).new _))
      refine St.ext' (fun q => ?_) rfl rfl
      simp only [rqS, St.obj_new, St.obj_put, St.next_new, St.next_put, Nat.add_assoc, Nat.reduceAdd, rqAt, rqErr]
      by_cases q1 : q = σ.next
      · simp [q1]
      · by_cases q2 : q = σ.next + 1
        · simp [q2]
        · by_cases q3 : q = σ.next + 2 <;> simp [q1, q2, q3]
    · have hb7 : ((x.k : Int) == 7) = false := by simp only [beq_eq_false_iff_ne, ne_eq]; omega
      rw [if_neg h7]
      by_cases h1 : x.k = 1
      · have hb1 : ((x.k : Int) == 1) = true := by rw [h1]; rfl
        rw [if_pos (.inl h1)]
        refine hgo_sound 60 ?_
        simp -implicitDefEqProofs (maxSteps := 1000000) only [simpS, ↓condJ_true, ↓condJ_false, ↓reduceIte, Nat.reduceEqDiff, Nat.reduceLT, Nat.reduceLeDiff, reduceCtorEq, Nat.reduceAdd, Nat.reduceSub, bindG_none, addG_none, hgrpK_none, nestK_none, hgrpK_guarded, Option.map_none, beq_self_eq_true, bne_self_eq_false, Option.map_some, if_true, if_false, List.getD_cons_zero, List.getD_cons_succ, List.length_cons, List.length_nil, List.mem_cons, List.not_mem_nil, List.mem_append, List.nil_append, List.cons_append, List.append_nil, List.take_succ_cons, List.take_zero, List.drop_succ_cons, List.drop_zero, List.set_cons_zero, List.set_cons_succ, List.map_cons, List.map_nil, implies_true, forall_const, ne_eq, hle2, n1, rqS_next]
        refine hgo_sound 60 ?_
        simp -implicitDefEqProofs (maxSteps := 1000000) only [simpS, ↓condJ_true, ↓condJ_false, ↓reduceIte, Nat.reduceEqDiff, Nat.reduceLT, Nat.reduceLeDiff, reduceCtorEq, Nat.reduceAdd, Nat.reduceSub, bindG_none, addG_none, hgrpK_none, nestK_none, hgrpK_guarded, Option.map_none, beq_self_eq_true, bne_self_eq_false, Option.map_some, if_true, if_false, List.getD_cons_zero, List.getD_cons_succ, List.length_cons, List.length_nil, List.mem_cons, List.not_mem_nil, List.mem_append, List.nil_append, List.cons_append, List.append_nil, List.take_succ_cons, List.take_zero, List.drop_succ_cons, List.drop_zero, List.set_cons_zero, List.set_cons_succ, List.map_cons, List.map_nil, implies_true, forall_const, ne_eq, hle2, n1, n2, rqS_next, rqS_0, rqS_1, rqS_2, rqS_3, rqS_4, hb7, hb1]
        exact round_next rfl rfl (rqS_wf hwf ⟨c, none⟩) hl hτ hle2 ((Ext.refl ρ).new _)
      · have hb1 : ((x.k : Int) == 1) = false := by simp only [beq_eq_false_iff_ne, ne_eq]; omega
        by_cases h2 : x.k = 2
        · have hb2 : ((x.k : Int) == 2) = true := by rw [h2]; rfl
          rw [if_pos (.inr h2)]
          refine hgo_sound 60 ?_
          simp -implicitDefEqProofs (maxSteps := 1000000) only [simpS, ↓condJ_true, ↓condJ_false, ↓reduceIte, Nat.reduceEqDiff, Nat.reduceLT, Nat.reduceLeDiff, reduceCtorEq, Nat.reduceAdd, Nat.reduceSub, bindG_none, addG_none, hgrpK_none, nestK_none, hgrpK_guarded, Option.map_none, beq_self_eq_true, bne_self_eq_false, Option.map_some, if_true, if_false, List.getD_cons_zero, List.getD_cons_succ, List.length_cons, List.length_nil, List.mem_cons, List.not_mem_nil, List.mem_append, List.nil_append, List.cons_append, List.append_nil, List.take_succ_cons, List.take_zero, List.drop_succ_cons, List.drop_zero, List.set_cons_zero, List.set_cons_succ, List.map_cons, List.map_nil, implies_true, forall_const, ne_eq, hle2, n1, rqS_next]
          refine hgo_sound 60 ?_
          simp -implicitDefEqProofs (maxSteps := 1000000) only [simpS, ↓condJ_true, ↓condJ_false, ↓reduceIte, Nat.reduceEqDiff, Nat.reduceLT, Nat.reduceLeDiff, reduceCtorEq, Nat.reduceAdd, Nat.reduceSub, bindG_none, addG_none, hgrpK_none, nestK_none, hgrpK_guarded, Option.map_none, beq_self_eq_true, bne_self_eq_false, Option.map_some, if_true, if_false, List.getD_cons_zero, List.getD_cons_succ, List.length_cons, List.length_nil, List.mem_cons, List.not_mem_nil, List.mem_append, List.nil_append, List.cons_append, List.append_nil, List.take_succ_cons, List.take_zero, List.drop_succ_cons, List.drop_zero, List.set_cons_zero, List.set_cons_succ, List.map_cons, List.map_nil, implies_true, forall_const, ne_eq, hle2, n1, n2, rqS_next, rqS_0, rqS_1, rqS_2, rqS_3, rqS_4, hb7, hb1, hb2]
          exact round_next rfl rfl (rqS_wf hwf ⟨c, none⟩) hl hτ hle2 ((Ext.refl ρ).new _)
        · have hb2 : ((x.k : Int) == 2) = false := by simp only [beq_eq_false_iff_ne, ne_eq]; omega
          rw [if_neg (by omega)]
          refine hgo_sound 60 ?_
          simp -implicitDefEqProofs (maxSteps := 1000000) only [simpS, ↓condJ_true, ↓condJ_false, ↓reduceIte, Nat.reduceEqDiff, Nat.reduceLT, Nat.reduceLeDiff, reduceCtorEq, Nat.reduceAdd, Nat.reduceSub, bindG_none, addG_none, hgrpK_none, nestK_none, hgrpK_guarded, Option.map_none, beq_self_eq_true, bne_self_eq_false, Option.map_some, if_true, if_false, List.getD_cons_zero, List.getD_cons_succ, List.length_cons, List.length_nil, List.mem_cons, List.not_mem_nil, List.mem_append, List.nil_append, List.cons_append, List.append_nil, List.take_succ_cons, List.take_zero, List.drop_succ_cons, List.drop_zero, List.set_cons_zero, List.set_cons_succ, List.map_cons, List.map_nil, implies_true, forall_const, ne_eq, hle2, n1, rqS_next]
          refine hgo_sound 60 ?_
          simp -implicitDefEqProofs (maxSteps := 1000000) only [simpS, ↓condJ_true, ↓condJ_false, ↓reduceIte, Nat.reduceEqDiff, Nat.reduceLT, Nat.reduceLeDiff, reduceCtorEq, Nat.reduceAdd, Nat.reduceSub, bindG_none, addG_none, hgrpK_none, nestK_none, hgrpK_guarded, Option.map_none, beq_self_eq_true, bne_self_eq_false, Option.map_some, if_true, if_false, List.getD_cons_zero, List.getD_cons_succ, List.length_cons, List.length_nil, List.mem_cons, List.not_mem_nil, List.mem_append, List.nil_append, List.cons_append, List.append_nil, List.take_succ_cons, List.take_zero, List.drop_succ_cons, List.drop_zero, List.set_cons_zero, List.set_cons_succ, List.map_cons, List.map_nil, implies_true, forall_const, ne_eq, hle2, n1, n2, rqS_next, rqS_0, rqS_1, rqS_2, rqS_3, rqS_4, hb7, hb1, hb2, encTk_length, hsz, hsz2]
          refine round_next ?_ rfl (rqS_wf hwf ⟨c ++ [x], none⟩) hl hτ hle2 ((Ext.refl ρ).new _)
          refine St.ext' (fun q => ?_) rfl rfl
          simp only [rqS, St.obj_new, St.obj_put, St.next_new, St.next_put, Nat.add_assoc, Nat.reduceAdd, rqAt, rqErr, ← encTk_snoc, List.length_append, List.length_cons, List.length_nil]
          by_cases q1 : q = σ.next + 3
          · simp [q1]
          · by_cases q2 : q = σ.next + 4 <;> simp [q1, q2]
  · rw [hrun]
    cases hb : badAt W with
    | some f =>
      refine hx_ret ?_
      exact fpost_wk (σ0 := σ) (ds := [.slice .nil 0 [], .int .i64 (f : Int), .iface 55 (.int .i64 2)]) (Wk.tuple (WkL.cons Wk.nil (WkL.refl _))) (.inr rfl) (by rw [hnx]; exact Nat.le_refl _) hwf ((rqS_ext σ _).bump.sub hwf)
        (resD_cell rfl (rqS_0 ..) (resD_cell rfl (rqS_1 ..) (resD_cell rfl (rqS_2 ..) resD_nil))) ⟨by decide, by decide, by decide, trivial⟩ ⟨⟨trivial, trivial⟩, trivial, trivial, trivial⟩ ⟨rfl, rfl⟩
    | none =>
      refine hx_inBlock ?_
      refine hgo_sound 60 ?_
      simp -implicitDefEqProofs (maxSteps := 1000000) only [simpS, ↓condJ_true, ↓condJ_false, ↓reduceIte, Nat.reduceEqDiff, Nat.reduceLT, Nat.reduceLeDiff, reduceCtorEq, Nat.reduceAdd, Nat.reduceSub, bindG_none, addG_none, hgrpK_none, nestK_none, hgrpK_guarded, Option.map_none, beq_self_eq_true, bne_self_eq_false, Option.map_some, if_true, if_false, List.getD_cons_zero, List.getD_cons_succ, List.length_cons, List.length_nil, List.mem_cons, List.not_mem_nil, List.mem_append, List.nil_append, List.cons_append, List.append_nil, List.take_succ_cons, List.take_zero, List.drop_succ_cons, List.drop_zero, List.set_cons_zero, List.set_cons_succ, List.map_cons, List.map_nil, implies_true, forall_const, ne_eq, rqS_next, rqS_0, rqS_1, rqS_2, rqS_3, rqS_4]
      exact fpost_strip (σ0 := σ) (ds := [.slice (.tok (σ.next + 4)) 3 (encTk (realsL W)), .int .i64 0, .nili]) (Wk.refl _) (.inr rfl) (by rw [hnx]; exact Nat.le_refl _) hwf ((((rqS_ext σ _).put (Nat.le_refl _) _).put (Nat.le_succ _) _).put (by omega) _ |>.bump.sub hwf)
        (resD_cell rfl (by simp [St.obj_bump, St.obj_put]) (resD_cell rfl (by simp [St.obj_bump, St.obj_put]) (resD_cell rfl (by simp [St.obj_bump, St.obj_put]) resD_nil))) ⟨by decide, by decide, by decide, trivial⟩ ⟨⟨trivial, encTk_lt _ _⟩, trivial, trivial, trivial⟩ ⟨rfl, rfl⟩

structure RrS where
  c : List Tk3
  i : Nat

theorem reals_split (l : List Tk3) (i : Nat) (h : i < l.length) : realsL (l.drop i) = (if isReal l[i] then [l[i]] else []) ++ realsL (l.drop (i + 1)) := by
  rw [List.drop_eq_getElem_cons h]
  simp only [realsL, List.filter_cons]
  split <;> simp_all
theorem badAt_split (l : List Tk3) (i : Nat) (h : i < l.length) : badAt (l.drop i) = if l[i].k = 7 then some l[i].f else badAt (l.drop (i + 1)) := by
  rw [List.drop_eq_getElem_cons h]
  rfl

set_option maxHeartbeats 4000000 in
theorem rreal_calls (s : ByteArray) (hs : s.size ≤ 1073741824) (σ : St) : HCalls Tryz.prog 22 [.str s] σ (fun d σ' => d = .tuple [.slice .no 3 (encTk (realR (toks s.data.toList 0))), .int .i64 (realA (toks s.data.toList 0) : Nat), .bool (decide (realE (toks s.data.toList 0) = 0))] ∧ σ' = σ) := by
  refine hcalls_body (fn := Tryz.f22) rfl c22 (by simp [h22]) (by simp [h22, Tryz.f22]) ?_
  intro M hP hr hnt hnx hwf hlt
  simp only [h22, argEnv]
  have hnt' : M.nt = 41 := hnt
  have hle := toks_le s
  unfold realR realA realE
  refine hgo_sound 60 ?_
  simp -implicitDefEqProofs (maxSteps := 1000000) only [simpS, ↓condJ_true, ↓condJ_false, ↓reduceIte, Nat.reduceEqDiff, Nat.reduceLT, Nat.reduceLeDiff, reduceCtorEq, Nat.reduceAdd, Nat.reduceSub, bindG_none, addG_none, hgrpK_none, nestK_none, hgrpK_guarded, Option.map_none, beq_self_eq_true, bne_self_eq_false, Option.map_some, if_true, if_false, List.getD_cons_zero, List.getD_cons_succ, List.length_cons, List.length_nil, List.mem_cons, List.not_mem_nil, List.mem_append, List.nil_append, List.cons_append, List.append_nil, List.take_succ_cons, List.take_zero, List.drop_succ_cons, List.drop_zero, List.set_cons_zero, List.set_cons_succ, List.map_cons, List.map_nil, implies_true, forall_const, ne_eq]
  refine hx_call (f := .fn 39) rfl (by rw [hP]; exact hcallD_func (rlist_calls s hs _)) ?_
  rintro _ σ2 ⟨rfl, h⟩
  subst σ2
  generalize toks s.data.toList 0 = W at *
  refine hgo_sound 8 ?_
  simp -implicitDefEqProofs (maxSteps := 1000000) only [simpS, ↓condJ_true, ↓condJ_false, ↓reduceIte, Nat.reduceEqDiff, Nat.reduceLT, Nat.reduceLeDiff, reduceCtorEq, Nat.reduceAdd, Nat.reduceSub, bindG_none, addG_none, hgrpK_none, nestK_none, hgrpK_guarded, Option.map_none, beq_self_eq_true, bne_self_eq_false, Option.map_some, if_true, if_false, List.getD_cons_zero, List.getD_cons_succ, List.length_cons, List.length_nil, List.mem_cons, List.not_mem_nil, List.mem_append, List.nil_append, List.cons_append, List.append_nil, List.take_succ_cons, List.take_zero, List.drop_succ_cons, List.drop_zero, List.set_cons_zero, List.set_cons_succ, List.map_cons, List.map_nil, implies_true, forall_const, ne_eq]
  refine hx_full (t := 6) 91 3 rfl ?_ (fun _ e => by cases e) (fun _ e => by cases e)
  refine hgo_sound 60 ?_
  simp -implicitDefEqProofs (maxSteps := 1000000) only [simpS, ↓condJ_true, ↓condJ_false, ↓reduceIte, Nat.reduceEqDiff, Nat.reduceLT, Nat.reduceLeDiff, reduceCtorEq, Nat.reduceAdd, Nat.reduceSub, bindG_none, addG_none, hgrpK_none, nestK_none, hgrpK_guarded, Option.map_none, beq_self_eq_true, bne_self_eq_false, Option.map_some, if_true, if_false, List.getD_cons_zero, List.getD_cons_succ, List.length_cons, List.length_nil, List.mem_cons, List.not_mem_nil, List.mem_append, List.nil_append, List.cons_append, List.append_nil, List.take_succ_cons, List.take_zero, List.drop_succ_cons, List.drop_zero, List.set_cons_zero, List.set_cons_succ, List.map_cons, List.map_nil, implies_true, forall_const, ne_eq]
  refine hx_know_code fun hw hl hn => ?_
  have hS : ∀ n : Nat, (σ.new (.tok 91 n)).wf := fun n => hwf.new trivial
  refine hx_loop (S := RrS) (fun t => [(5, .slice .no 3 (encTk W)), (6, .slice (.tok σ.next) 3 (encTk t.c)), (7, .int .i64 (t.i : Int))]) (fun t => σ.new (.tok 91 t.c.length))
    (fun t => t.i ≤ W.length ∧ t.c.length ≤ t.i ∧ badAt W = badAt (W.drop t.i) ∧ realsL W = t.c ++ realsL (W.drop t.i)) (fun t => W.length - t.i) ⟨[], 0⟩
    ⟨Nat.zero_le _, Nat.le_refl _, rfl, rfl⟩ (fun _ _ h => by rw [hr] at h; cases h) ?_ ?_
  · exact Drop.all hw hn ⟨⟨rfl, encTk_slt _ _⟩, ⟨rfl, by simp only [D.lt, Own.lt, St.next_new]; exact ⟨by omega, trivial⟩⟩, ⟨rfl, trivial⟩, trivial⟩
  rintro ⟨c, i⟩ ⟨i1, i2, i3, i4⟩
  simp only at i1 i2 i3 i4 ⊢
  by_cases hi : i < W.length
  · have hd : decide ((i : Int) < (W.length : Int)) = true := decide_eq_true (by omega)
    have hi' : (i : Int) < (W.length : Int) := by omega
    have hg := encTk_get W i hi
    have hwi : IntKind.i64.wrap ((i : Int) + 1) = ((i + 1 : Nat) : Int) := by rw [IntWalk.i64_in _ (by omega)]; rfl
    have hsz : (c.length + 1) * 24 ≤ 140737488355328 := by omega
    have hsz2 : c.length + 1 ≤ 9223372036854775807 := by omega
    rw [badAt_split W i hi] at i3
    rw [reals_split W i hi] at i4
    by_cases h7 : W[i].k = 7
    · have hb7 : ((W[i].k : Int) == 7) = true := by rw [h7]; rfl
      rw [if_pos h7] at i3
      rw [i3]
      refine hgo_sound 60 ?_
      simp -implicitDefEqProofs (maxSteps := 1000000) only [simpS, ↓condJ_true, ↓condJ_false, ↓reduceIte, Nat.reduceEqDiff, Nat.reduceLT, Nat.reduceLeDiff, reduceCtorEq, Nat.reduceAdd, Nat.reduceSub, bindG_none, addG_none, hgrpK_none, nestK_none, hgrpK_guarded, Option.map_none, beq_self_eq_true, bne_self_eq_false, Option.map_some, if_true, if_false, List.getD_cons_zero, List.getD_cons_succ, List.length_cons, List.length_nil, List.mem_cons, List.not_mem_nil, List.mem_append, List.nil_append, List.cons_append, List.append_nil, List.take_succ_cons, List.take_zero, List.drop_succ_cons, List.drop_zero, List.set_cons_zero, List.set_cons_succ, List.map_cons, List.map_nil, implies_true, forall_const, ne_eq, hd, hi', hi, hg, hb7, encTk_length, Int.toNat_natCast, Int.natCast_nonneg]
      refine hx_drawgo 1 ?_
      simp -implicitDefEqProofs (maxSteps := 100000000) only [drawS, List.map_cons, List.map_nil, List.getElem?_cons_zero, List.getElem?_cons_succ, List.getElem?_nil, simpS, ↓condJ_true, ↓condJ_false, ↓reduceIte, Nat.reduceEqDiff, Nat.reduceLT, Nat.reduceLeDiff, reduceCtorEq, Nat.reduceAdd, Nat.reduceSub, bindG_none, addG_none, hgrpK_none, nestK_none, hgrpK_guarded, Option.map_none, beq_self_eq_true, bne_self_eq_false, Option.map_some, if_true, if_false, List.getD_cons_zero, List.getD_cons_succ, List.length_cons, List.length_nil, List.mem_cons, List.not_mem_nil, List.mem_append, List.nil_append, List.cons_append, List.append_nil, List.take_succ_cons, List.take_zero, List.drop_succ_cons, List.drop_zero, List.set_cons_zero, List.set_cons_succ, List.map_cons, List.map_nil, implies_true, forall_const, ne_eq, hnt', hi', hi, hg, encTk_length, Int.toNat_natCast, Int.natCast_nonneg]
      refine hx_ret ?_
      exact fpost_wk (σ0 := σ) (ds := [.slice .nil 0 [], .int .i64 (W[i].f : Int), .bool false]) (Wk.tuple (WkL.cons Wk.nil (WkL.refl _))) (.inr rfl) (by rw [hnx]; exact Nat.le_refl _) hwf (((Ext.refl _).new _).sub hwf) rfl trivial ⟨⟨trivial, trivial⟩, trivial, trivial, trivial⟩ ⟨rfl, rfl⟩
    · have hb7 : ((W[i].k : Int) == 7) = false := by simp only [beq_eq_false_iff_ne, ne_eq]; omega
      rw [if_neg h7] at i3
      by_cases h2 : 2 < W[i].k
      · have hb2 : decide ((W[i].k : Int) > 2) = true := decide_eq_true (by omega)
        have hir : isReal W[i] = true := decide_eq_true h2
        rw [hir, if_pos rfl] at i4
        refine hgo_sound 90 ?_
        simp -implicitDefEqProofs (maxSteps := 1000000) only [simpS, ↓condJ_true, ↓condJ_false, ↓reduceIte, Nat.reduceEqDiff, Nat.reduceLT, Nat.reduceLeDiff, reduceCtorEq, Nat.reduceAdd, Nat.reduceSub, bindG_none, addG_none, hgrpK_none, nestK_none, hgrpK_guarded, Option.map_none, beq_self_eq_true, bne_self_eq_false, Option.map_some, if_true, if_false, List.getD_cons_zero, List.getD_cons_succ, List.length_cons, List.length_nil, List.mem_cons, List.not_mem_nil, List.mem_append, List.nil_append, List.cons_append, List.append_nil, List.take_succ_cons, List.take_zero, List.drop_succ_cons, List.drop_zero, List.set_cons_zero, List.set_cons_succ, List.map_cons, List.map_nil, implies_true, forall_const, ne_eq, hd, hi', hi, hg, hb7, hb2, hwi, hsz, hsz2, encTk_length, Int.toNat_natCast, Int.natCast_nonneg]
        intro hw5 hl5 hn5
        refine ⟨⟨c ++ [W[i]], i + 1⟩, ⟨by simp only; omega, by simp only [List.length_append, List.length_cons, List.length_nil]; omega, i3, by simp only [List.append_assoc]; exact i4⟩, by simp only; omega, ?_⟩
        simp only [List.length_append, List.length_cons, List.length_nil]
        refine Drop.all hw5 hn5 ⟨⟨rfl, encTk_slt _ _⟩, ⟨?_, by simp only [D.lt, Own.lt, St.next_new]; exact ⟨by omega, encTk_lt _ _⟩⟩, ⟨rfl, trivial⟩, trivial⟩
        rw [← encTk_snoc]
        rfl
      · have hb2 : decide ((W[i].k : Int) > 2) = false := decide_eq_false (by omega)
        have hir : isReal W[i] = false := decide_eq_false h2
        rw [hir] at i4
        refine hgo_sound 90 ?_
        simp -implicitDefEqProofs (maxSteps := 1000000) only [simpS, ↓condJ_true, ↓condJ_false, ↓reduceIte, Nat.reduceEqDiff, Nat.reduceLT, Nat.reduceLeDiff, reduceCtorEq, Nat.reduceAdd, Nat.reduceSub, bindG_none, addG_none, hgrpK_none, nestK_none, hgrpK_guarded, Option.map_none, beq_self_eq_true, bne_self_eq_false, Option.map_some, if_true, if_false, List.getD_cons_zero, List.getD_cons_succ, List.length_cons, List.length_nil, List.mem_cons, List.not_mem_nil, List.mem_append, List.nil_append, List.cons_append, List.append_nil, List.take_succ_cons, List.take_zero, List.drop_succ_cons, List.drop_zero, List.set_cons_zero, List.set_cons_succ, List.map_cons, List.map_nil, implies_true, forall_const, ne_eq, hd, hi', hi, hg, hb7, hb2, hwi, encTk_length, Int.toNat_natCast, Int.natCast_nonneg]
        intro hw5 hl5 hn5
        refine ⟨⟨c, i + 1⟩, ⟨by simp only; omega, by simp only; omega, i3, i4⟩, by simp only; omega, ?_⟩
        exact Drop.all hw5 hn5 ⟨⟨rfl, encTk_slt _ _⟩, ⟨rfl, by simp only [D.lt, Own.lt, St.next_new]; exact ⟨by omega, encTk_lt _ _⟩⟩, ⟨rfl, trivial⟩, trivial⟩
  · have hd : decide ((i : Int) < (W.length : Int)) = false := decide_eq_false (by omega)
    have hdr : W.drop i = [] := List.drop_eq_nil_of_le (by omega)
    rw [hdr] at i3 i4
    simp only [badAt, realsL, List.filter_nil, List.append_nil] at i3 i4
    rw [i3]
    have e4 : realsL W = c := i4
    subst e4
    refine hgo_sound 60 ?_
    simp -implicitDefEqProofs (maxSteps := 1000000) only [simpS, ↓condJ_true, ↓condJ_false, ↓reduceIte, Nat.reduceEqDiff, Nat.reduceLT, Nat.reduceLeDiff, reduceCtorEq, Nat.reduceAdd, Nat.reduceSub, bindG_none, addG_none, hgrpK_none, nestK_none, hgrpK_guarded, Option.map_none, beq_self_eq_true, bne_self_eq_false, Option.map_some, if_true, if_false, List.getD_cons_zero, List.getD_cons_succ, List.length_cons, List.length_nil, List.mem_cons, List.not_mem_nil, List.mem_append, List.nil_append, List.cons_append, List.append_nil, List.take_succ_cons, List.take_zero, List.drop_succ_cons, List.drop_zero, List.set_cons_zero, List.set_cons_succ, List.map_cons, List.map_nil, implies_true, forall_const, ne_eq, hd, encTk_length]
    exact fpost_strip (σ0 := σ) (ds := [.slice (.tok σ.next) 3 (encTk (realsL W)), .int .i64 0, .bool true]) (Wk.refl _) (.inr rfl) (by rw [hnx]; exact Nat.le_refl _) hwf (((Ext.refl _).new _).sub hwf) rfl trivial ⟨⟨trivial, encTk_lt _ _⟩, trivial, trivial, trivial⟩ ⟨rfl, rfl⟩

end Go.Hl
set_option linter.unusedSectionVars false
set_option linter.unusedVariables false
set_option linter.unusedSimpArgs false
set_option maxRecDepth 100000
namespace Go.Hl
open Go Go.Proofs Go.RowKit

def textT (s : ByteArray) (x : Tk3) : ByteArray := s.extract x.f x.t

theorem ttext_calls (s : ByteArray) (x : Tk3) (h1 : x.f ≤ x.t) (h2 : x.t ≤ s.size) (σ : St) : HCalls Tryz.prog 40 [.agg (encK3 x), .str s] σ (fun d σ' => d = .str (textT s x) ∧ σ' = σ) := by
  refine hcalls_body (fn := Tryz.f40) rfl c40 (by simp [h40]) (by simp [h40, Tryz.f40]) ?_
  intro M hP hr hnt hnx hwf hlt
  simp only [h40, argEnv]
  have d1 : decide ((x.f : Int) < 0) = false := decide_eq_false (by omega)
  have d2 : decide ((x.f : Int) > (x.t : Int)) = false := decide_eq_false (by omega)
  have d3 : decide ((x.t : Int) > (s.size : Int)) = false := decide_eq_false (by omega)
  have p1 : (0 : Int) ≤ (x.t : Int) ∧ (x.t : Int) ≤ (s.size : Int) ∧ (0 : Int) ≤ (x.f : Int) ∧ (x.f : Int) ≤ (x.t : Int) := by omega
  refine hgo_sound 90 ?_
  simp -implicitDefEqProofs (maxSteps := 1000000) only [simpS, ↓condJ_true, ↓condJ_false, ↓reduceIte, Nat.reduceEqDiff, Nat.reduceLT, Nat.reduceLeDiff, reduceCtorEq, Nat.reduceAdd, Nat.reduceSub, bindG_none, addG_none, hgrpK_none, nestK_none, hgrpK_guarded, Option.map_none, beq_self_eq_true, bne_self_eq_false, Option.map_some, if_true, if_false, List.getD_cons_zero, List.getD_cons_succ, List.length_cons, List.length_nil, List.mem_cons, List.not_mem_nil, List.mem_append, List.nil_append, List.cons_append, List.append_nil, List.take_succ_cons, List.take_zero, List.drop_succ_cons, List.drop_zero, List.set_cons_zero, List.set_cons_succ, List.map_cons, List.map_nil, implies_true, forall_const, ne_eq, d1, d2, d3, p1.1, p1.2.1, p1.2.2.1, p1.2.2.2, Int.toNat_natCast]
  exact fpost_pure (σ0 := σ) (.inr rfl) (by rw [hnx]; exact Nat.le_refl _) hwf (by first | exact Sub.refl σ | exact (((Ext.refl _).new _).sub hwf)) rfl trivial (by repeat' (first | trivial | apply And.intro)) ⟨rfl, rfl⟩

end Go.Hl
set_option linter.unusedSectionVars false
set_option linter.unusedVariables false
set_option linter.unusedSimpArgs false
set_option maxRecDepth 100000
namespace Go.Hl
open Go Go.Proofs

inductive Nd where
  | mk (kind : Int) (gap text : ByteArray) (at_ : Int) (kids : List Nd)

def Nd.kind : Nd → Int
  | .mk k _ _ _ _ => k
def Nd.gap : Nd → ByteArray
  | .mk _ g _ _ _ => g
def Nd.text : Nd → ByteArray
  | .mk _ _ t _ _ => t
def Nd.at_ : Nd → Int
  | .mk _ _ _ a _ => a
def Nd.kids : Nd → List Nd
  | .mk _ _ _ _ ks => ks

mutual
def encN : Nd → List D
  | .mk k g t a ks => [.int .i64 k, .str g, .str t, .int .i64 a, .slice .no 5 (encNs ks)]
def encNs : List Nd → List (List D)
  | [] => []
  | n :: ns => encN n :: encNs ns
end

theorem encN_length : ∀ n, (encN n).length = 5
  | .mk .. => rfl
mutual
theorem encN_lt (n : Nat) : ∀ m : Nd, ltL n (encN m)
  | .mk k g t a ks => by simp only [encN, ltL, D.lt, Own.lt, true_and, and_true]; exact encNs_lt n ks
theorem encNs_lt (n : Nat) : ∀ ks : List Nd, ltX n (encNs ks)
  | [] => trivial
  | k :: ks => ⟨encN_lt n k, encNs_lt n ks⟩
end

def stp (x : Int × Nd) : List D := .int .i64 x.1 :: encN x.2
def encSt (st : List (Int × Nd)) : List (List D) := st.reverse.map stp

theorem ltX_append {n : Nat} : ∀ {xs ys : List (List D)}, ltX n (xs ++ ys) ↔ ltX n xs ∧ ltX n ys
  | [], ys => by simp [ltX]
  | x :: xs, ys => by simp only [List.cons_append, ltX, ltX_append (xs := xs), and_assoc]
theorem encSt_lt (n : Nat) : ∀ st, ltX n (encSt st)
  | [] => trivial
  | (d, m) :: r => by
    have : encSt ((d, m) :: r) = encSt r ++ [stp (d, m)] := by simp [encSt]
    rw [this, ltX_append]
    exact ⟨encSt_lt n r, ⟨⟨trivial, encN_lt n m⟩, trivial⟩⟩

end Go.Hl
set_option linter.unusedSectionVars false
set_option linter.unusedVariables false
set_option linter.unusedSimpArgs false
set_option maxRecDepth 100000
namespace Go.Hl
open Go Go.Proofs

structure DS (C : Type) where
  st : List (Int × Nd)
  c : C
  tid : Nat
  vid : Nat
  g : Nat

def DS.T {X : Type} (tk : Tk X) (s : DS tk.C) : St := ((tk.T s.c).newAt s.vid (.vec s.g 6 (encSt s.st))).newAt s.tid (.box [.vec s.vid s.g])

theorem DS.wf {X : Type} (tk : Tk X) (s : DS tk.C) (hv : tk.N ≤ s.vid) (ht : s.vid < s.tid) : (DS.T tk s).wf :=
  ((tk.wf s.c).newAt (by rw [tk.next]; exact hv) (show (Ob.vec s.g 6 (encSt s.st)).lt (s.vid + 1) from encSt_lt _ _)).newAt (by rw [St.next_newAt]; omega) (by simp only [Ob.lt, ltL, D.lt, and_true]; omega)

structure PS where
  st : List (Int × Nd)
  g : Nat

def PS.step (d : Int) (p : PS) (x : Int × Nd) : PS × Option HC := (⟨(d + 1, x.2) :: p.st, p.g + 1⟩, none)

theorem PS.run (d : Int) : ∀ (xs : List (Int × Nd)) (p : PS), rngRun (PS.step d) p xs = (⟨(xs.map fun x => (d + 1, x.2)).reverse ++ p.st, p.g + xs.length⟩, none)
  | [], p => rfl
  | x :: xs, p => by
    simp only [rngRun, PS.step]
    rw [PS.run d xs]
    simp
    omega

theorem PS.oks (d : Int) : ∀ (xs : List (Int × Nd)) (p : PS), p.st.length + xs.length ≤ 1099511627776 → rngOks (fun (p : PS) (x : Int × Nd) => p.st.length < 1099511627776) (PS.step d) p xs
  | [], p, _ => trivial
  | x :: xs, p, h => by
    simp only [List.length_cons] at h
    refine ⟨by show p.st.length < _; omega, fun _ => PS.oks d xs _ ?_⟩
    simp only [PS.step, List.length_cons]
    omega

end Go.Hl
set_option linter.unusedSectionVars false
set_option linter.unusedVariables false
set_option linter.unusedSimpArgs false
set_option maxRecDepth 100000
namespace Go.Hl
open Go Go.Proofs

end Go.Hl
set_option linter.unusedSectionVars false
set_option linter.unusedVariables false
set_option linter.unusedSimpArgs false
set_option maxRecDepth 100000
namespace Go.Hl
open Go Go.Proofs

end Go.Hl
set_option linter.unusedSectionVars false
set_option linter.unusedVariables false
namespace Go.Hl
open Go

def valV (vals : List D) : Nat → D := fun j => vals.getD j .undef

theorem useV_congr {nt : Nat} {env : Env} {V V' : Nat → D} : ∀ {us : List (Nat × Nat)}, (∀ u ∈ us, nt ≤ u.2 → V (u.2 - nt) = V' (u.2 - nt)) → useV nt env V us = useV nt env V' us
  | [], _ => rfl
  | u :: us, h => by
    simp only [useV, List.map_cons]
    have h1 := useV_congr (nt := nt) (env := env) (us := us) fun x hx => h x (List.mem_cons_of_mem _ hx)
    simp only [useV] at h1
    rw [h1]
    congr 2
    split
    · rfl
    · exact h u (List.mem_cons_self ..) (by omega)

theorem dFinV_congr {V V' : Nat → D} : ∀ {ds : List DI} {i : Nat} {e : Env}, (∀ j, j < ds.length → V (i + j) = V' (i + j)) → dFinV V i ds e = dFinV V' i ds e
  | [], _, _, _ => rfl
  | d :: ds, i, e, h => by
    have h0 := h 0 (by simp)
    have h1 : ∀ e, dFinV V (i + 1) ds e = dFinV V' (i + 1) ds e := fun e => dFinV_congr fun j hj => by
      have := h (j + 1) (by simp; omega)
      rwa [show i + 1 + j = i + (j + 1) by omega]
    simp only [Nat.add_zero] at h0
    simp only [dFinV, h0, h1]

theorem allD_intro {F : Nat → DI → Prop} : ∀ {ds : List DI} {i : Nat}, (∀ (j : Nat) d, ds[j]? = some d → F (i + j) d) → allD i ds F
  | [], _, _ => trivial
  | d :: ds, i, h => ⟨by simpa using h 0 d rfl, allD_intro fun j d' hj => by
      have := h (j + 1) d' (by simpa using hj)
      rwa [show i + 1 + j = i + (j + 1) by omega]⟩

theorem goV_of_step {P : Program} {e : Env} {d : DI} {σ : St} {F Next : Go.Hl.D → St → Prop} (h : StepV P e d σ Next) (hF : ∀ x s, Next x s → F x s) : goV P e d σ F := by
  unfold goV
  cases h with
  | op hg hst hp =>
    rw [hg]
    show opH _ _ _
    unfold opH
    split
    · rename_i hop
      rw [hop] at hst
      cases hst
    · rw [hst]
      exact ⟨hp, hF _ _ ⟨rfl, rfl⟩⟩
  | not hg =>
    rw [hg]
    exact hF _ _ ⟨rfl, rfl⟩
  | call hop hg hc =>
    rw [hg, hop]
    exact ⟨_, _, _, rfl, hc, hF⟩

theorem goV_mono {P : Program} {e : Env} {d : DI} {σ : St} {F G : Go.Hl.D → St → Prop} (h : goV P e d σ F) (hfg : ∀ x s, F x s → G x s) : goV P e d σ G := by
  obtain ⟨Next, h1, h2⟩ := goV_step h
  exact goV_of_step h1 fun x s hx => hfg x s (h2 x s hx)

section
variable {M : Md} {base : HPost} {kont : List It} {D : List DI} {env : Env} {σ : St}

theorem hx_drawK (vals : List Go.Hl.D) (st : (Nat → Bool) → St) (hu : (D.all fun d => d.uses.all fun u => decide (u.2 < M.nt) || d.anc.testBit (u.2 - M.nt)) = true) (h0 : st (fun _ => false) = σ)
    (hs : ∀ L, (∀ i d, D[i]? = some d → L i = true → ∀ j, d.anc.testBit j = true → L j = true) → allD 0 D fun i d => L i = false → (∀ j, d.anc.testBit j = true → L j = true) →
      goV M.P (useV M.nt env (valV vals) d.uses) d (st L) fun x σ' => x = valV vals i ∧ σ' = st (upd L i true))
    (hfin : ∀ L, (∀ i, i < D.length → L i = true) → HX M base kont (dFinV (valV vals) 0 D (lowE M.nt env)) (st L)) : HX M base (.code (.draw D) :: kont) env σ := by
  refine hx_drawS (fun L V σ' => (∀ j, L j = true → V j = valV vals j) ∧ σ' = st L ∧ (∀ i d, D[i]? = some d → L i = true → ∀ j, d.anc.testBit j = true → L j = true))
    ⟨(fun _ h => by cases h), h0.symm, (fun _ _ _ h => by cases h)⟩ ?_ ?_
  · rintro L V σ' ⟨hV, rfl, hC⟩
    have h1 := hs L hC
    refine allD_intro fun i d hd hi ha => ?_
    rw [Nat.zero_add] at hi ⊢
    have h2 := allD_spec h1 i d hd
    rw [Nat.zero_add] at h2
    have he : useV M.nt env V d.uses = useV M.nt env (valV vals) d.uses := useV_congr fun u hu' hn => by
      have h3 := List.all_eq_true.1 hu d (List.mem_of_getElem? hd)
      have h4 := List.all_eq_true.1 h3 u hu'
      simp only [Bool.or_eq_true, decide_eq_true_eq] at h4
      rcases h4 with h4 | h4
      · omega
      · exact hV _ (ha _ h4)
    rw [he]
    refine goV_mono (h2 hi ha) ?_
    rintro x s ⟨rfl, rfl⟩
    refine ⟨fun j hj => ?_, rfl, fun k dk hk hLk j hj => ?_⟩
    · simp only [upd] at hj ⊢
      split
      · rename_i e; rw [e]
      · rename_i e; rw [if_neg e] at hj; exact hV j hj
    · simp only [upd] at hLk ⊢
      split
      · rfl
      · rename_i e
        split at hLk
        · rename_i e2
          subst e2
          obtain rfl := Option.some.inj (hd.symm.trans hk)
          exact ha j hj
        · exact hC k dk hk hLk j hj
  · rintro L V σ' hall ⟨hV, rfl, _⟩
    rw [dFinV_congr (V' := valV vals) fun j hj => by rw [Nat.zero_add]; exact hV j (hall j hj)]
    exact hfin L hall

end

end Go.Hl
set_option linter.unusedSectionVars false
set_option linter.unusedVariables false
set_option linter.unusedSimpArgs false
set_option maxRecDepth 100000
namespace Go.Hl
open Go Go.Proofs Go.RowKit

theorem token_calls (g t : ByteArray) (a : Int) (σ : St) : HCalls Tryz.prog 41 [.str g, .str t, .int .i64 a] σ (fun d σ' => d = .agg (encN (.mk 1 g t a [])) ∧ σ' = σ) := by
  refine hcalls_body (fn := Tryz.f41) rfl c41 (by simp [h41]) (by simp [h41, Tryz.f41]) ?_
  intro M hP hr hnt hnx hwf hlt
  simp only [h41, argEnv]
  refine hgo_sound 40 ?_
  simp -implicitDefEqProofs (maxSteps := 1000000) only [simpS, ↓condJ_true, ↓condJ_false, ↓reduceIte, Nat.reduceEqDiff, Nat.reduceLT, Nat.reduceLeDiff, reduceCtorEq, Nat.reduceAdd, Nat.reduceSub, bindG_none, addG_none, hgrpK_none, nestK_none, hgrpK_guarded, Option.map_none, beq_self_eq_true, bne_self_eq_false, Option.map_some, if_true, if_false, List.getD_cons_zero, List.getD_cons_succ, List.length_cons, List.length_nil, List.mem_cons, List.not_mem_nil, List.mem_append, List.nil_append, List.cons_append, List.append_nil, List.take_succ_cons, List.take_zero, List.drop_succ_cons, List.drop_zero, List.set_cons_zero, List.set_cons_succ, List.map_cons, List.map_nil, implies_true, forall_const, ne_eq]
  refine fpost_wk (ds := [.agg [.int .i64 1, .str g, .str t, .int .i64 a, .slice .nil 0 []]]) (.agg (.cons (.refl _) (.cons (.refl _) (.cons (.refl _) (.cons (.refl _) (.cons .nil .nil)))))) (.inr rfl) (by omega) hwf (((Ext.refl σ).new _).sub hwf) (resD_cellS rfl (by simp [St.obj_new]; rfl) rfl resD_nil) ⟨by simp, trivial⟩ ⟨trivial, trivial, trivial, trivial, ⟨trivial, trivial⟩, trivial⟩ ⟨rfl, rfl⟩

end Go.Hl
set_option linter.unusedSectionVars false
set_option linter.unusedVariables false
set_option linter.unusedSimpArgs false
set_option maxRecDepth 100000
namespace Go.Hl
open Go Go.Proofs Go.RowKit

structure Cu where
  s : ByteArray
  L : List Tk3
  n : Nat
  la : Nat
  dp : Nat
  at_ : Nat
  er : Nat

abbrev encC (c : Cu) : List D := [.str c.s, .slice .no 3 (encTk c.L), .int .i64 (c.n : Int), .int .i64 (c.la : Int), .int .i64 (c.dp : Int), .int .i64 (c.at_ : Int), .int .i64 (c.er : Int)]

structure Cu.ok (c : Cu) : Prop where
  small : c.s.size ≤ 4000
  len : c.L.length ≤ c.s.size
  in_ : ∀ x ∈ c.L, x.f ≤ x.t ∧ x.t ≤ c.s.size
  next : c.n ≤ c.L.length
  last : c.la ≤ c.s.size
  lastf : ∀ x, c.L[c.n]? = some x → c.la ≤ x.f

def leftC (c : Cu) : Nat := if c.er = 0 then c.L.length - c.n else 0

theorem left_calls (id : Nat) (c : Cu) (hc : c.ok) (σ : St) (ho : σ.obj id = some (.box (encC c))) : HCalls Tryz.prog 20 [.ptr id 0] σ (fun d σ' => d = .int .i64 (leftC c : Int) ∧ σ' = σ) := by
  refine hcalls_body (fn := Tryz.f20) rfl c20 (by simp [h20]) (by simp [h20, Tryz.f20]) ?_
  intro M hP hr hnt hnx hwf hlt
  simp only [h20, argEnv]
  have hnt' : M.nt = 22 := hnt
  have hnx := hc.next
  by_cases he : c.er = 0
  · have e1 : ((c.er : Int) != 0) = false := by rw [he]; rfl
    have hw : IntKind.i64.wrap ((c.L.length : Int) - (c.n : Int)) = ((c.L.length - c.n : Nat) : Int) := by
      have := hc.len; have := hc.small
      rw [IntWalk.i64_in _ (by omega)]; omega
    have hl : leftC c = c.L.length - c.n := by unfold leftC; rw [if_pos he]
    rw [hl]
    refine hgo_sound 90 ?_
    simp -implicitDefEqProofs (maxSteps := 1000000) only [simpS, ↓condJ_true, ↓condJ_false, ↓reduceIte, Nat.reduceEqDiff, Nat.reduceLT, Nat.reduceLeDiff, reduceCtorEq, Nat.reduceAdd, Nat.reduceSub, bindG_none, addG_none, hgrpK_none, nestK_none, hgrpK_guarded, Option.map_none, beq_self_eq_true, bne_self_eq_false, Option.map_some, if_true, if_false, List.getD_cons_zero, List.getD_cons_succ, List.length_cons, List.length_nil, List.mem_cons, List.not_mem_nil, List.mem_append, List.nil_append, List.cons_append, List.append_nil, List.take_succ_cons, List.take_zero, List.drop_succ_cons, List.drop_zero, List.set_cons_zero, List.set_cons_succ, List.map_cons, List.map_nil, implies_true, forall_const, ne_eq, ho, e1]
    refine hx_drawgo 1 ?_
    simp -implicitDefEqProofs (maxSteps := 100000000) only [drawS, List.map_cons, List.map_nil, List.getElem?_cons_zero, List.getElem?_cons_succ, List.getElem?_nil, simpS, ↓condJ_true, ↓condJ_false, ↓reduceIte, Nat.reduceEqDiff, Nat.reduceLT, Nat.reduceLeDiff, reduceCtorEq, Nat.reduceAdd, Nat.reduceSub, bindG_none, addG_none, hgrpK_none, nestK_none, hgrpK_guarded, Option.map_none, beq_self_eq_true, bne_self_eq_false, Option.map_some, if_true, if_false, List.getD_cons_zero, List.getD_cons_succ, List.length_cons, List.length_nil, List.mem_cons, List.not_mem_nil, List.mem_append, List.nil_append, List.cons_append, List.append_nil, List.take_succ_cons, List.take_zero, List.drop_succ_cons, List.drop_zero, List.set_cons_zero, List.set_cons_succ, List.map_cons, List.map_nil, implies_true, forall_const, ne_eq, hnt', ho, e1, encTk_length, hw]
    refine hgo_sound 60 ?_
    simp -implicitDefEqProofs (maxSteps := 1000000) only [simpS, ↓condJ_true, ↓condJ_false, ↓reduceIte, Nat.reduceEqDiff, Nat.reduceLT, Nat.reduceLeDiff, reduceCtorEq, Nat.reduceAdd, Nat.reduceSub, bindG_none, addG_none, hgrpK_none, nestK_none, hgrpK_guarded, Option.map_none, beq_self_eq_true, bne_self_eq_false, Option.map_some, if_true, if_false, List.getD_cons_zero, List.getD_cons_succ, List.length_cons, List.length_nil, List.mem_cons, List.not_mem_nil, List.mem_append, List.nil_append, List.cons_append, List.append_nil, List.take_succ_cons, List.take_zero, List.drop_succ_cons, List.drop_zero, List.set_cons_zero, List.set_cons_succ, List.map_cons, List.map_nil, implies_true, forall_const, ne_eq]
    exact fpost_keep (.inr rfl) rfl trivial (fun _ => trivial) fun hw => ⟨rfl, rfl⟩
  · have e1 : ((c.er : Int) != 0) = true := by simp; omega
    have hl : leftC c = 0 := by unfold leftC; rw [if_neg he]
    rw [hl]
    refine hgo_sound 90 ?_
    simp -implicitDefEqProofs (maxSteps := 1000000) only [simpS, ↓condJ_true, ↓condJ_false, ↓reduceIte, Nat.reduceEqDiff, Nat.reduceLT, Nat.reduceLeDiff, reduceCtorEq, Nat.reduceAdd, Nat.reduceSub, bindG_none, addG_none, hgrpK_none, nestK_none, hgrpK_guarded, Option.map_none, beq_self_eq_true, bne_self_eq_false, Option.map_some, if_true, if_false, List.getD_cons_zero, List.getD_cons_succ, List.length_cons, List.length_nil, List.mem_cons, List.not_mem_nil, List.mem_append, List.nil_append, List.cons_append, List.append_nil, List.take_succ_cons, List.take_zero, List.drop_succ_cons, List.drop_zero, List.set_cons_zero, List.set_cons_succ, List.map_cons, List.map_nil, implies_true, forall_const, ne_eq, ho, e1]
    exact fpost_keep (.inr rfl) rfl trivial (fun _ => trivial) fun hw => ⟨rfl, rfl⟩

def peekC (c : Cu) (a : Int) : Nat × ByteArray :=
  if 0 ≤ a ∧ a < (leftC c : Int) then ((c.L.getD (c.n + a.toNat) ⟨0, 0, 0⟩).k, textT c.s (c.L.getD (c.n + a.toNat) ⟨0, 0, 0⟩)) else (0, ⟨#[]⟩)

theorem leftC_lt {c : Cu} {j : Nat} (h : j < leftC c) : c.er = 0 ∧ c.n + j < c.L.length := by
  unfold leftC at h
  split at h
  · rename_i e; exact ⟨e, by omega⟩
  · omega

theorem peek_calls (id : Nat) (c : Cu) (hc : c.ok) (a : Int) (σ : St) (ho : σ.obj id = some (.box (encC c))) : HCalls Tryz.prog 23 [.ptr id 0, .int .i64 a] σ (fun d σ' => d = .tuple [.int .i64 ((peekC c a).1 : Int), .str (peekC c a).2] ∧ σ' = σ) := by
  refine hcalls_body (fn := Tryz.f23) rfl c23 (by simp [h23]) (by simp [h23, Tryz.f23]) ?_
  intro M hP hr hnt hnx hwf hlt
  simp only [h23, argEnv]
  have hnt' : M.nt = 35 := hnt
  by_cases h0 : 0 ≤ a
  · have d0 : decide (a < 0) = false := decide_eq_false (by omega)
    refine hgo_sound 60 ?_
    simp -implicitDefEqProofs (maxSteps := 1000000) only [simpS, ↓condJ_true, ↓condJ_false, ↓reduceIte, Nat.reduceEqDiff, Nat.reduceLT, Nat.reduceLeDiff, reduceCtorEq, Nat.reduceAdd, Nat.reduceSub, bindG_none, addG_none, hgrpK_none, nestK_none, hgrpK_guarded, Option.map_none, beq_self_eq_true, bne_self_eq_false, Option.map_some, if_true, if_false, List.getD_cons_zero, List.getD_cons_succ, List.length_cons, List.length_nil, List.mem_cons, List.not_mem_nil, List.mem_append, List.nil_append, List.cons_append, List.append_nil, List.take_succ_cons, List.take_zero, List.drop_succ_cons, List.drop_zero, List.set_cons_zero, List.set_cons_succ, List.map_cons, List.map_nil, implies_true, forall_const, ne_eq, d0]
    refine hx_call (f := .fn 20) rfl (by rw [hP]; exact hcallD_func (left_calls id c hc _ ho)) ?_
    rintro _ σ2 ⟨rfl, h⟩
    subst σ2
    by_cases h1 : a < (leftC c : Int)
    · have d1 : decide (a ≥ (leftC c : Int)) = false := decide_eq_false (by omega)
      obtain ⟨j, rfl⟩ : ∃ j : Nat, a = (j : Int) := ⟨a.toNat, by omega⟩
      obtain ⟨he, hj⟩ := leftC_lt (c := c) (j := j) (by omega)
      have hg := encTk_get c.L (c.n + j) hj
      have hw : IntKind.i64.wrap ((c.n : Int) + (j : Int)) = ((c.n + j : Nat) : Int) := by
        have := hc.len; have := hc.small
        rw [IntWalk.i64_in _ (by omega)]; rfl
      have hlt : ((c.n + j : Nat) : Int) < (c.L.length : Int) := by omega
      have hx := hc.in_ c.L[c.n + j] (List.getElem_mem _)
      have hgd : c.L.getD (c.n + j) ⟨0, 0, 0⟩ = c.L[c.n + j] := by simp [List.getD, hj]
      have hp : peekC c (j : Int) = (c.L[c.n + j].k, textT c.s c.L[c.n + j]) := by unfold peekC; rw [if_pos ⟨h0, h1⟩, Int.toNat_natCast, hgd]
      have hid := (hwf.obj _ _ ho).1
      have hne : ¬ id = σ.next := by omega
      rw [hp]
      refine hgo_sound 60 ?_
      simp -implicitDefEqProofs (maxSteps := 1000000) only [simpS, ↓condJ_true, ↓condJ_false, ↓reduceIte, Nat.reduceEqDiff, Nat.reduceLT, Nat.reduceLeDiff, reduceCtorEq, Nat.reduceAdd, Nat.reduceSub, bindG_none, addG_none, hgrpK_none, nestK_none, hgrpK_guarded, Option.map_none, beq_self_eq_true, bne_self_eq_false, Option.map_some, if_true, if_false, List.getD_cons_zero, List.getD_cons_succ, List.length_cons, List.length_nil, List.mem_cons, List.not_mem_nil, List.mem_append, List.nil_append, List.cons_append, List.append_nil, List.take_succ_cons, List.take_zero, List.drop_succ_cons, List.drop_zero, List.set_cons_zero, List.set_cons_succ, List.map_cons, List.map_nil, implies_true, forall_const, ne_eq, d1]
      refine hx_drawgo 3 ?_
      simp -implicitDefEqProofs (maxSteps := 100000000) only [drawS, List.map_cons, List.map_nil, List.getElem?_cons_zero, List.getElem?_cons_succ, List.getElem?_nil, simpS, ↓condJ_true, ↓condJ_false, ↓reduceIte, Nat.reduceEqDiff, Nat.reduceLT, Nat.reduceLeDiff, reduceCtorEq, Nat.reduceAdd, Nat.reduceSub, bindG_none, addG_none, hgrpK_none, nestK_none, hgrpK_guarded, Option.map_none, beq_self_eq_true, bne_self_eq_false, Option.map_some, if_true, if_false, List.getD_cons_zero, List.getD_cons_succ, List.length_cons, List.length_nil, List.mem_cons, List.not_mem_nil, List.mem_append, List.nil_append, List.cons_append, List.append_nil, List.take_succ_cons, List.take_zero, List.drop_succ_cons, List.drop_zero, List.set_cons_zero, List.set_cons_succ, List.map_cons, List.map_nil, implies_true, forall_const, ne_eq, hnt', ho, hne, encTk_length, hw, hg, hlt, Int.toNat_natCast, Int.natCast_nonneg]
      refine hgo_sound 60 ?_
      simp -implicitDefEqProofs (maxSteps := 1000000) only [simpS, ↓condJ_true, ↓condJ_false, ↓reduceIte, Nat.reduceEqDiff, Nat.reduceLT, Nat.reduceLeDiff, reduceCtorEq, Nat.reduceAdd, Nat.reduceSub, bindG_none, addG_none, hgrpK_none, nestK_none, hgrpK_guarded, Option.map_none, beq_self_eq_true, bne_self_eq_false, Option.map_some, if_true, if_false, List.getD_cons_zero, List.getD_cons_succ, List.length_cons, List.length_nil, List.mem_cons, List.not_mem_nil, List.mem_append, List.nil_append, List.cons_append, List.append_nil, List.take_succ_cons, List.take_zero, List.drop_succ_cons, List.drop_zero, List.set_cons_zero, List.set_cons_succ, List.map_cons, List.map_nil, implies_true, forall_const, ne_eq, ho, hne]
      refine hx_drawgo 1 ?_
      simp -implicitDefEqProofs (maxSteps := 100000000) only [drawS, List.map_cons, List.map_nil, List.getElem?_cons_zero, List.getElem?_cons_succ, List.getElem?_nil, simpS, ↓condJ_true, ↓condJ_false, ↓reduceIte, Nat.reduceEqDiff, Nat.reduceLT, Nat.reduceLeDiff, reduceCtorEq, Nat.reduceAdd, Nat.reduceSub, bindG_none, addG_none, hgrpK_none, nestK_none, hgrpK_guarded, Option.map_none, beq_self_eq_true, bne_self_eq_false, Option.map_some, if_true, if_false, List.getD_cons_zero, List.getD_cons_succ, List.length_cons, List.length_nil, List.mem_cons, List.not_mem_nil, List.mem_append, List.nil_append, List.cons_append, List.append_nil, List.take_succ_cons, List.take_zero, List.drop_succ_cons, List.drop_zero, List.set_cons_zero, List.set_cons_succ, List.map_cons, List.map_nil, implies_true, forall_const, ne_eq, hnt', ho, hne]
      refine hd_call (i := 7) (f := .fn 40) (by simp -implicitDefEqProofs (maxSteps := 100000000) only [drawS, List.map_cons, List.map_nil, List.getElem?_cons_zero, List.getElem?_cons_succ, List.getElem?_nil, simpS, ↓condJ_true, ↓condJ_false, ↓reduceIte, Nat.reduceEqDiff, Nat.reduceLT, Nat.reduceLeDiff, reduceCtorEq, Nat.reduceAdd, Nat.reduceSub, bindG_none, addG_none, hgrpK_none, nestK_none, hgrpK_guarded, Option.map_none, beq_self_eq_true, bne_self_eq_false, Option.map_some, if_true, if_false, List.getD_cons_zero, List.getD_cons_succ, List.length_cons, List.length_nil, List.mem_cons, List.not_mem_nil, List.mem_append, List.nil_append, List.cons_append, List.append_nil, List.take_succ_cons, List.take_zero, List.drop_succ_cons, List.drop_zero, List.set_cons_zero, List.set_cons_succ, List.map_cons, List.map_nil, implies_true, forall_const, ne_eq, hnt', ho, hne]) (by rfl) (by rfl) rfl (by rfl) (by rw [hP]; exact hcallD_func (ttext_calls c.s c.L[c.n + j] hx.1 hx.2 _)) ?_
      rintro _ σ2 ⟨rfl, h⟩
      subst σ2
      refine hdgo_sound 1 ?_
      simp -implicitDefEqProofs (maxSteps := 3000000) only [drawS, List.map_cons, List.map_nil, List.getElem?_cons_zero, List.getElem?_cons_succ, List.getElem?_nil, simpS, ↓condJ_true, ↓condJ_false, ↓reduceIte, Nat.reduceEqDiff, Nat.reduceLT, Nat.reduceLeDiff, reduceCtorEq, Nat.reduceAdd, Nat.reduceSub, bindG_none, addG_none, hgrpK_none, nestK_none, hgrpK_guarded, Option.map_none, beq_self_eq_true, bne_self_eq_false, Option.map_some, if_true, if_false, List.getD_cons_zero, List.getD_cons_succ, List.length_cons, List.length_nil, List.mem_cons, List.not_mem_nil, List.mem_append, List.nil_append, List.cons_append, List.append_nil, List.take_succ_cons, List.take_zero, List.drop_succ_cons, List.drop_zero, List.set_cons_zero, List.set_cons_succ, List.map_cons, List.map_nil, implies_true, forall_const, ne_eq, hnt', ho, hne]
      refine hgo_sound 60 ?_
      simp -implicitDefEqProofs (maxSteps := 1000000) only [simpS, ↓condJ_true, ↓condJ_false, ↓reduceIte, Nat.reduceEqDiff, Nat.reduceLT, Nat.reduceLeDiff, reduceCtorEq, Nat.reduceAdd, Nat.reduceSub, bindG_none, addG_none, hgrpK_none, nestK_none, hgrpK_guarded, Option.map_none, beq_self_eq_true, bne_self_eq_false, Option.map_some, if_true, if_false, List.getD_cons_zero, List.getD_cons_succ, List.length_cons, List.length_nil, List.mem_cons, List.not_mem_nil, List.mem_append, List.nil_append, List.cons_append, List.append_nil, List.take_succ_cons, List.take_zero, List.drop_succ_cons, List.drop_zero, List.set_cons_zero, List.set_cons_succ, List.map_cons, List.map_nil, implies_true, forall_const, ne_eq]
      exact fpost_pure (σ0 := σ) (.inr rfl) (by rw [hnx]; exact Nat.le_refl _) hwf (((Ext.refl _).new _).sub hwf) rfl trivial ⟨trivial, trivial, trivial⟩ ⟨rfl, rfl⟩
    · have d1 : decide (a ≥ (leftC c : Int)) = true := decide_eq_true (by omega)
      have hp : peekC c a = (0, ⟨#[]⟩) := by unfold peekC; rw [if_neg (by omega)]
      rw [hp]
      refine hgo_sound 60 ?_
      simp -implicitDefEqProofs (maxSteps := 1000000) only [simpS, ↓condJ_true, ↓condJ_false, ↓reduceIte, Nat.reduceEqDiff, Nat.reduceLT, Nat.reduceLeDiff, reduceCtorEq, Nat.reduceAdd, Nat.reduceSub, bindG_none, addG_none, hgrpK_none, nestK_none, hgrpK_guarded, Option.map_none, beq_self_eq_true, bne_self_eq_false, Option.map_some, if_true, if_false, List.getD_cons_zero, List.getD_cons_succ, List.length_cons, List.length_nil, List.mem_cons, List.not_mem_nil, List.mem_append, List.nil_append, List.cons_append, List.append_nil, List.take_succ_cons, List.take_zero, List.drop_succ_cons, List.drop_zero, List.set_cons_zero, List.set_cons_succ, List.map_cons, List.map_nil, implies_true, forall_const, ne_eq, d1]
      exact fpost_keep (.inr rfl) rfl trivial (fun _ => ⟨trivial, trivial, trivial⟩) fun hw => ⟨rfl, rfl⟩
  · have d0 : decide (a < 0) = true := decide_eq_true (by omega)
    have hp : peekC c a = (0, ⟨#[]⟩) := by unfold peekC; rw [if_neg (by omega)]
    rw [hp]
    refine hgo_sound 60 ?_
    simp -implicitDefEqProofs (maxSteps := 1000000) only [simpS, ↓condJ_true, ↓condJ_false, ↓reduceIte, Nat.reduceEqDiff, Nat.reduceLT, Nat.reduceLeDiff, reduceCtorEq, Nat.reduceAdd, Nat.reduceSub, bindG_none, addG_none, hgrpK_none, nestK_none, hgrpK_guarded, Option.map_none, beq_self_eq_true, bne_self_eq_false, Option.map_some, if_true, if_false, List.getD_cons_zero, List.getD_cons_succ, List.length_cons, List.length_nil, List.mem_cons, List.not_mem_nil, List.mem_append, List.nil_append, List.cons_append, List.append_nil, List.take_succ_cons, List.take_zero, List.drop_succ_cons, List.drop_zero, List.set_cons_zero, List.set_cons_succ, List.map_cons, List.map_nil, implies_true, forall_const, ne_eq, d0]
    exact fpost_keep (.inr rfl) rfl trivial (fun _ => ⟨trivial, trivial, trivial⟩) fun hw => ⟨rfl, rfl⟩

def atC (c : Cu) : Nat := if leftC c = 0 then c.s.size else (c.L.getD c.n ⟨0, 0, 0⟩).f

theorem at_calls (id : Nat) (c : Cu) (hc : c.ok) (σ : St) (ho : σ.obj id = some (.box (encC c))) : HCalls Tryz.prog 31 [.ptr id 0] σ (fun d σ' => d = .int .i64 (atC c : Int) ∧ σ' = σ) := by
  refine hcalls_body (fn := Tryz.f31) rfl c31 (by simp [h31]) (by simp [h31, Tryz.f31]) ?_
  intro M hP hr hnt hnx hwf hlt
  simp only [h31, argEnv]
  have hnt' : M.nt = 26 := hnt
  refine hgo_sound 60 ?_
  simp -implicitDefEqProofs (maxSteps := 1000000) only [simpS, ↓condJ_true, ↓condJ_false, ↓reduceIte, Nat.reduceEqDiff, Nat.reduceLT, Nat.reduceLeDiff, reduceCtorEq, Nat.reduceAdd, Nat.reduceSub, bindG_none, addG_none, hgrpK_none, nestK_none, hgrpK_guarded, Option.map_none, beq_self_eq_true, bne_self_eq_false, Option.map_some, if_true, if_false, List.getD_cons_zero, List.getD_cons_succ, List.length_cons, List.length_nil, List.mem_cons, List.not_mem_nil, List.mem_append, List.nil_append, List.cons_append, List.append_nil, List.take_succ_cons, List.take_zero, List.drop_succ_cons, List.drop_zero, List.set_cons_zero, List.set_cons_succ, List.map_cons, List.map_nil, implies_true, forall_const, ne_eq]
  refine hx_call (f := .fn 20) rfl (by rw [hP]; exact hcallD_func (left_calls id c hc _ ho)) ?_
  rintro _ σ2 ⟨rfl, h⟩
  subst σ2
  by_cases h0 : leftC c = 0
  · have e0 : ((leftC c : Int) == 0) = true := by rw [h0]; rfl
    have hp : atC c = c.s.size := by unfold atC; rw [if_pos h0]
    rw [hp]
    refine hgo_sound 90 ?_
    simp -implicitDefEqProofs (maxSteps := 1000000) only [simpS, ↓condJ_true, ↓condJ_false, ↓reduceIte, Nat.reduceEqDiff, Nat.reduceLT, Nat.reduceLeDiff, reduceCtorEq, Nat.reduceAdd, Nat.reduceSub, bindG_none, addG_none, hgrpK_none, nestK_none, hgrpK_guarded, Option.map_none, beq_self_eq_true, bne_self_eq_false, Option.map_some, if_true, if_false, List.getD_cons_zero, List.getD_cons_succ, List.length_cons, List.length_nil, List.mem_cons, List.not_mem_nil, List.mem_append, List.nil_append, List.cons_append, List.append_nil, List.take_succ_cons, List.take_zero, List.drop_succ_cons, List.drop_zero, List.set_cons_zero, List.set_cons_succ, List.map_cons, List.map_nil, implies_true, forall_const, ne_eq, e0, ho]
    exact fpost_keep (.inr rfl) rfl trivial (fun _ => trivial) fun hw => ⟨rfl, rfl⟩
  · have e0 : ((leftC c : Int) == 0) = false := by simp; omega
    obtain ⟨he, hj⟩ := leftC_lt (c := c) (j := 0) (by omega)
    have hg := encTk_get c.L c.n hj
    have hlt : (c.n : Int) < (c.L.length : Int) := by omega
    have hgd : c.L.getD c.n ⟨0, 0, 0⟩ = c.L[c.n] := by simp [List.getD, show c.n < c.L.length from hj]
    have hp : atC c = c.L[c.n].f := by unfold atC; rw [if_neg h0, hgd]
    rw [hp]
    refine hgo_sound 90 ?_
    simp -implicitDefEqProofs (maxSteps := 1000000) only [simpS, ↓condJ_true, ↓condJ_false, ↓reduceIte, Nat.reduceEqDiff, Nat.reduceLT, Nat.reduceLeDiff, reduceCtorEq, Nat.reduceAdd, Nat.reduceSub, bindG_none, addG_none, hgrpK_none, nestK_none, hgrpK_guarded, Option.map_none, beq_self_eq_true, bne_self_eq_false, Option.map_some, if_true, if_false, List.getD_cons_zero, List.getD_cons_succ, List.length_cons, List.length_nil, List.mem_cons, List.not_mem_nil, List.mem_append, List.nil_append, List.cons_append, List.append_nil, List.take_succ_cons, List.take_zero, List.drop_succ_cons, List.drop_zero, List.set_cons_zero, List.set_cons_succ, List.map_cons, List.map_nil, implies_true, forall_const, ne_eq, e0, ho]
    refine hx_drawgo 1 ?_
    simp -implicitDefEqProofs (maxSteps := 100000000) only [drawS, List.map_cons, List.map_nil, List.getElem?_cons_zero, List.getElem?_cons_succ, List.getElem?_nil, simpS, ↓condJ_true, ↓condJ_false, ↓reduceIte, Nat.reduceEqDiff, Nat.reduceLT, Nat.reduceLeDiff, reduceCtorEq, Nat.reduceAdd, Nat.reduceSub, bindG_none, addG_none, hgrpK_none, nestK_none, hgrpK_guarded, Option.map_none, beq_self_eq_true, bne_self_eq_false, Option.map_some, if_true, if_false, List.getD_cons_zero, List.getD_cons_succ, List.length_cons, List.length_nil, List.mem_cons, List.not_mem_nil, List.mem_append, List.nil_append, List.cons_append, List.append_nil, List.take_succ_cons, List.take_zero, List.drop_succ_cons, List.drop_zero, List.set_cons_zero, List.set_cons_succ, List.map_cons, List.map_nil, implies_true, forall_const, ne_eq, hnt', ho, encTk_length, hg, hlt, Int.toNat_natCast, Int.natCast_nonneg]
    refine hgo_sound 60 ?_
    simp -implicitDefEqProofs (maxSteps := 1000000) only [simpS, ↓condJ_true, ↓condJ_false, ↓reduceIte, Nat.reduceEqDiff, Nat.reduceLT, Nat.reduceLeDiff, reduceCtorEq, Nat.reduceAdd, Nat.reduceSub, bindG_none, addG_none, hgrpK_none, nestK_none, hgrpK_guarded, Option.map_none, beq_self_eq_true, bne_self_eq_false, Option.map_some, if_true, if_false, List.getD_cons_zero, List.getD_cons_succ, List.length_cons, List.length_nil, List.mem_cons, List.not_mem_nil, List.mem_append, List.nil_append, List.cons_append, List.append_nil, List.take_succ_cons, List.take_zero, List.drop_succ_cons, List.drop_zero, List.set_cons_zero, List.set_cons_succ, List.map_cons, List.map_nil, implies_true, forall_const, ne_eq]
    exact fpost_keep (.inr rfl) rfl trivial (fun _ => trivial) fun hw => ⟨rfl, rfl⟩

def isC (c : Cu) (a : Int) (x : ByteArray) : Bool := (decide ((peekC c a).1 = 3) || decide ((peekC c a).1 = 6)) && decide ((peekC c a).2 = x)

theorem cis_calls (id : Nat) (c : Cu) (hc : c.ok) (a : Int) (x : ByteArray) (σ : St) (ho : σ.obj id = some (.box (encC c))) : HCalls Tryz.prog 29 [.ptr id 0, .int .i64 a, .str x] σ (fun d σ' => d = .bool (isC c a x) ∧ σ' = σ) := by
  refine hcalls_body (fn := Tryz.f29) rfl c29 (by simp [h29]) (by simp [h29, Tryz.f29]) ?_
  intro M hP hr hnt hnx hwf hlt
  simp only [h29, argEnv]
  have hnt' : M.nt = 26 := hnt
  refine hgo_sound 60 ?_
  simp -implicitDefEqProofs (maxSteps := 1000000) only [simpS, ↓condJ_true, ↓condJ_false, ↓reduceIte, Nat.reduceEqDiff, Nat.reduceLT, Nat.reduceLeDiff, reduceCtorEq, Nat.reduceAdd, Nat.reduceSub, bindG_none, addG_none, hgrpK_none, nestK_none, hgrpK_guarded, Option.map_none, beq_self_eq_true, bne_self_eq_false, Option.map_some, if_true, if_false, List.getD_cons_zero, List.getD_cons_succ, List.length_cons, List.length_nil, List.mem_cons, List.not_mem_nil, List.mem_append, List.nil_append, List.cons_append, List.append_nil, List.take_succ_cons, List.take_zero, List.drop_succ_cons, List.drop_zero, List.set_cons_zero, List.set_cons_succ, List.map_cons, List.map_nil, implies_true, forall_const, ne_eq]
  refine hx_call (f := .fn 23) rfl (by rw [hP]; exact hcallD_func (peek_calls id c hc a _ ho)) ?_
  rintro _ σ2 ⟨rfl, h⟩
  subst σ2
  unfold isC
  generalize peekC c a = q
  obtain ⟨k, t⟩ := q
  have e3 : ((k : Int) == 3) = decide (k = 3) := by rw [Bool.eq_iff_iff]; simp; omega
  have e6 : ((k : Int) == 6) = decide (k = 6) := by rw [Bool.eq_iff_iff]; simp; omega
  simp only
  cases hk3 : decide (k = 3)
  · cases hk6 : decide (k = 6)
    · refine hgo_sound 60 ?_
      simp -implicitDefEqProofs (maxSteps := 1000000) only [simpS, ↓condJ_true, ↓condJ_false, ↓reduceIte, Nat.reduceEqDiff, Nat.reduceLT, Nat.reduceLeDiff, reduceCtorEq, Nat.reduceAdd, Nat.reduceSub, bindG_none, addG_none, hgrpK_none, nestK_none, hgrpK_guarded, Option.map_none, beq_self_eq_true, bne_self_eq_false, Option.map_some, if_true, if_false, List.getD_cons_zero, List.getD_cons_succ, List.length_cons, List.length_nil, List.mem_cons, List.not_mem_nil, List.mem_append, List.nil_append, List.cons_append, List.append_nil, List.take_succ_cons, List.take_zero, List.drop_succ_cons, List.drop_zero, List.set_cons_zero, List.set_cons_succ, List.map_cons, List.map_nil, implies_true, forall_const, ne_eq, e3, e6, hk3, hk6]
      exact fpost_keep (.inr rfl) rfl trivial (fun _ => trivial) fun hw => ⟨rfl, rfl⟩
    · refine hgo_sound 60 ?_
      simp -implicitDefEqProofs (maxSteps := 1000000) only [simpS, ↓condJ_true, ↓condJ_false, ↓reduceIte, Nat.reduceEqDiff, Nat.reduceLT, Nat.reduceLeDiff, reduceCtorEq, Nat.reduceAdd, Nat.reduceSub, bindG_none, addG_none, hgrpK_none, nestK_none, hgrpK_guarded, Option.map_none, beq_self_eq_true, bne_self_eq_false, Option.map_some, if_true, if_false, List.getD_cons_zero, List.getD_cons_succ, List.length_cons, List.length_nil, List.mem_cons, List.not_mem_nil, List.mem_append, List.nil_append, List.cons_append, List.append_nil, List.take_succ_cons, List.take_zero, List.drop_succ_cons, List.drop_zero, List.set_cons_zero, List.set_cons_succ, List.map_cons, List.map_nil, implies_true, forall_const, ne_eq, e3, e6, hk3, hk6]
      exact fpost_keep (.inr rfl) rfl trivial (fun _ => trivial) fun hw => ⟨rfl, rfl⟩
  · refine hgo_sound 60 ?_
    simp -implicitDefEqProofs (maxSteps := 1000000) only [simpS, ↓condJ_true, ↓condJ_false, ↓reduceIte, Nat.reduceEqDiff, Nat.reduceLT, Nat.reduceLeDiff, reduceCtorEq, Nat.reduceAdd, Nat.reduceSub, bindG_none, addG_none, hgrpK_none, nestK_none, hgrpK_guarded, Option.map_none, beq_self_eq_true, bne_self_eq_false, Option.map_some, if_true, if_false, List.getD_cons_zero, List.getD_cons_succ, List.length_cons, List.length_nil, List.mem_cons, List.not_mem_nil, List.mem_append, List.nil_append, List.cons_append, List.append_nil, List.take_succ_cons, List.take_zero, List.drop_succ_cons, List.drop_zero, List.set_cons_zero, List.set_cons_succ, List.map_cons, List.map_nil, implies_true, forall_const, ne_eq, e3, e6, hk3]
    exact fpost_keep (.inr rfl) rfl trivial (fun _ => trivial) fun hw => ⟨rfl, rfl⟩

def failC (c : Cu) (e : Int) : Cu := if c.er = 0 then { c with at_ := atC c, er := if e < 1 ∨ e > 15 then 2 else e.toNat } else c

theorem fail_calls (id : Nat) (c : Cu) (hc : c.ok) (e : Int) (σ : St) (ho : σ.obj id = some (.box (encC c))) : HCalls Tryz.prog 17 [.ptr id 0, .int .i64 e] σ (fun _ σ' => σ' = σ.put id (.box (encC (failC c e)))) := by
  refine hcalls_body (fn := Tryz.f17) rfl c17 (by simp [h17]) (by simp [h17, Tryz.f17]) ?_
  intro M hP hr hnt hnx hwf hlt
  simp only [h17, argEnv]
  have hnt' : M.nt = 28 := hnt
  by_cases he : c.er = 0
  · have e1 : ((c.er : Int) != 0) = false := by rw [he]; rfl
    by_cases h1 : e < 1
    · have d1 : decide (e < 1) = true := decide_eq_true h1
      have hf : failC c e = { c with at_ := atC c, er := 2 } := by unfold failC; rw [if_pos he, if_pos (.inl h1)]
      rw [hf]
      refine hgo_sound 90 ?_
      simp -implicitDefEqProofs (maxSteps := 1000000) only [simpS, ↓condJ_true, ↓condJ_false, ↓reduceIte, Nat.reduceEqDiff, Nat.reduceLT, Nat.reduceLeDiff, reduceCtorEq, Nat.reduceAdd, Nat.reduceSub, bindG_none, addG_none, hgrpK_none, nestK_none, hgrpK_guarded, Option.map_none, beq_self_eq_true, bne_self_eq_false, Option.map_some, if_true, if_false, List.getD_cons_zero, List.getD_cons_succ, List.length_cons, List.length_nil, List.mem_cons, List.not_mem_nil, List.mem_append, List.nil_append, List.cons_append, List.append_nil, List.take_succ_cons, List.take_zero, List.drop_succ_cons, List.drop_zero, List.set_cons_zero, List.set_cons_succ, List.map_cons, List.map_nil, implies_true, forall_const, ne_eq, ho, e1, d1]
      refine hx_call (f := .fn 31) rfl (by rw [hP]; exact hcallD_func (at_calls id c hc _ ho)) ?_
      rintro _ σ2 ⟨rfl, h⟩
      subst σ2
      refine hgo_sound 90 ?_
      simp -implicitDefEqProofs (maxSteps := 1000000) only [simpS, ↓condJ_true, ↓condJ_false, ↓reduceIte, Nat.reduceEqDiff, Nat.reduceLT, Nat.reduceLeDiff, reduceCtorEq, Nat.reduceAdd, Nat.reduceSub, bindG_none, addG_none, hgrpK_none, nestK_none, hgrpK_guarded, Option.map_none, beq_self_eq_true, bne_self_eq_false, Option.map_some, if_true, if_false, List.getD_cons_zero, List.getD_cons_succ, List.length_cons, List.length_nil, List.mem_cons, List.not_mem_nil, List.mem_append, List.nil_append, List.cons_append, List.append_nil, List.take_succ_cons, List.take_zero, List.drop_succ_cons, List.drop_zero, List.set_cons_zero, List.set_cons_succ, List.map_cons, List.map_nil, implies_true, forall_const, ne_eq, ho]
      exact fpost_keep (.inl rfl) rfl trivial (fun _ => trivial) fun hw => rfl
    · have d1 : decide (e < 1) = false := decide_eq_false h1
      by_cases h2 : e > 15
      · have d2 : decide (e > 15) = true := decide_eq_true h2
        have hf : failC c e = { c with at_ := atC c, er := 2 } := by unfold failC; rw [if_pos he, if_pos (.inr h2)]
        rw [hf]
        refine hgo_sound 90 ?_
        simp -implicitDefEqProofs (maxSteps := 1000000) only [simpS, ↓condJ_true, ↓condJ_false, ↓reduceIte, Nat.reduceEqDiff, Nat.reduceLT, Nat.reduceLeDiff, reduceCtorEq, Nat.reduceAdd, Nat.reduceSub, bindG_none, addG_none, hgrpK_none, nestK_none, hgrpK_guarded, Option.map_none, beq_self_eq_true, bne_self_eq_false, Option.map_some, if_true, if_false, List.getD_cons_zero, List.getD_cons_succ, List.length_cons, List.length_nil, List.mem_cons, List.not_mem_nil, List.mem_append, List.nil_append, List.cons_append, List.append_nil, List.take_succ_cons, List.take_zero, List.drop_succ_cons, List.drop_zero, List.set_cons_zero, List.set_cons_succ, List.map_cons, List.map_nil, implies_true, forall_const, ne_eq, ho, e1, d1, d2]
        refine hx_call (f := .fn 31) rfl (by rw [hP]; exact hcallD_func (at_calls id c hc _ ho)) ?_
        rintro _ σ2 ⟨rfl, h⟩
        subst σ2
        refine hgo_sound 90 ?_
        simp -implicitDefEqProofs (maxSteps := 1000000) only [simpS, ↓condJ_true, ↓condJ_false, ↓reduceIte, Nat.reduceEqDiff, Nat.reduceLT, Nat.reduceLeDiff, reduceCtorEq, Nat.reduceAdd, Nat.reduceSub, bindG_none, addG_none, hgrpK_none, nestK_none, hgrpK_guarded, Option.map_none, beq_self_eq_true, bne_self_eq_false, Option.map_some, if_true, if_false, List.getD_cons_zero, List.getD_cons_succ, List.length_cons, List.length_nil, List.mem_cons, List.not_mem_nil, List.mem_append, List.nil_append, List.cons_append, List.append_nil, List.take_succ_cons, List.take_zero, List.drop_succ_cons, List.drop_zero, List.set_cons_zero, List.set_cons_succ, List.map_cons, List.map_nil, implies_true, forall_const, ne_eq, ho]
        exact fpost_keep (.inl rfl) rfl trivial (fun _ => trivial) fun hw => rfl
      · have d2 : decide (e > 15) = false := decide_eq_false h2
        have hf : failC c e = { c with at_ := atC c, er := e.toNat } := by unfold failC; rw [if_pos he, if_neg (by omega)]
        obtain ⟨j, rfl⟩ : ∃ j : Nat, e = (j : Int) := ⟨e.toNat, by omega⟩
        rw [hf]
        refine hgo_sound 90 ?_
        simp -implicitDefEqProofs (maxSteps := 1000000) only [simpS, ↓condJ_true, ↓condJ_false, ↓reduceIte, Nat.reduceEqDiff, Nat.reduceLT, Nat.reduceLeDiff, reduceCtorEq, Nat.reduceAdd, Nat.reduceSub, bindG_none, addG_none, hgrpK_none, nestK_none, hgrpK_guarded, Option.map_none, beq_self_eq_true, bne_self_eq_false, Option.map_some, if_true, if_false, List.getD_cons_zero, List.getD_cons_succ, List.length_cons, List.length_nil, List.mem_cons, List.not_mem_nil, List.mem_append, List.nil_append, List.cons_append, List.append_nil, List.take_succ_cons, List.take_zero, List.drop_succ_cons, List.drop_zero, List.set_cons_zero, List.set_cons_succ, List.map_cons, List.map_nil, implies_true, forall_const, ne_eq, ho, e1, d1, d2]
        refine hx_call (f := .fn 31) rfl (by rw [hP]; exact hcallD_func (at_calls id c hc _ ho)) ?_
        rintro _ σ2 ⟨rfl, h⟩
        subst σ2
        refine hgo_sound 90 ?_
        simp -implicitDefEqProofs (maxSteps := 1000000) only [simpS, ↓condJ_true, ↓condJ_false, ↓reduceIte, Nat.reduceEqDiff, Nat.reduceLT, Nat.reduceLeDiff, reduceCtorEq, Nat.reduceAdd, Nat.reduceSub, bindG_none, addG_none, hgrpK_none, nestK_none, hgrpK_guarded, Option.map_none, beq_self_eq_true, bne_self_eq_false, Option.map_some, if_true, if_false, List.getD_cons_zero, List.getD_cons_succ, List.length_cons, List.length_nil, List.mem_cons, List.not_mem_nil, List.mem_append, List.nil_append, List.cons_append, List.append_nil, List.take_succ_cons, List.take_zero, List.drop_succ_cons, List.drop_zero, List.set_cons_zero, List.set_cons_succ, List.map_cons, List.map_nil, implies_true, forall_const, ne_eq, ho]
        exact fpost_keep (.inl rfl) rfl trivial (fun _ => trivial) fun hw => rfl
  · have e1 : ((c.er : Int) != 0) = true := by simp; omega
    have hf : failC c e = c := by unfold failC; rw [if_neg he]
    rw [hf]
    refine hgo_sound 90 ?_
    simp -implicitDefEqProofs (maxSteps := 1000000) only [simpS, ↓condJ_true, ↓condJ_false, ↓reduceIte, Nat.reduceEqDiff, Nat.reduceLT, Nat.reduceLeDiff, reduceCtorEq, Nat.reduceAdd, Nat.reduceSub, bindG_none, addG_none, hgrpK_none, nestK_none, hgrpK_guarded, Option.map_none, beq_self_eq_true, bne_self_eq_false, Option.map_some, if_true, if_false, List.getD_cons_zero, List.getD_cons_succ, List.length_cons, List.length_nil, List.mem_cons, List.not_mem_nil, List.mem_append, List.nil_append, List.cons_append, List.append_nil, List.take_succ_cons, List.take_zero, List.drop_succ_cons, List.drop_zero, List.set_cons_zero, List.set_cons_succ, List.map_cons, List.map_nil, implies_true, forall_const, ne_eq, ho, e1]
    exact fpost_keep (.inr rfl) rfl trivial (fun _ => trivial) fun hw => (put_self ho).symm

abbrev erV (e : Nat) : D := erD (e : Int)

theorem failed_calls (id : Nat) (c : Cu) (σ : St) (ho : σ.obj id = some (.box (encC c))) : HCalls Tryz.prog 33 [.ptr id 0] σ (fun d σ' => d = .tuple [.int .i64 (if c.er = 0 then 0 else (c.at_ : Int)), erV c.er] ∧ σ' = σ) := by
  refine hcalls_body (fn := Tryz.f33) rfl c33 (by simp [h33]) (by simp [h33, Tryz.f33]) ?_
  intro M hP hr hnt hnx hwf hlt
  simp only [h33, argEnv]
  have hnt' : M.nt = 23 := hnt
  by_cases he : c.er = 0
  · have e1 : ((c.er : Int) == 0) = true := by rw [he]; rfl
    have hv : erV c.er = .nili := by unfold erV; rw [he]; rfl
    rw [hv, if_pos he]
    refine hgo_sound 90 ?_
    simp -implicitDefEqProofs (maxSteps := 1000000) only [simpS, ↓condJ_true, ↓condJ_false, ↓reduceIte, Nat.reduceEqDiff, Nat.reduceLT, Nat.reduceLeDiff, reduceCtorEq, Nat.reduceAdd, Nat.reduceSub, bindG_none, addG_none, hgrpK_none, nestK_none, hgrpK_guarded, Option.map_none, beq_self_eq_true, bne_self_eq_false, Option.map_some, if_true, if_false, List.getD_cons_zero, List.getD_cons_succ, List.length_cons, List.length_nil, List.mem_cons, List.not_mem_nil, List.mem_append, List.nil_append, List.cons_append, List.append_nil, List.take_succ_cons, List.take_zero, List.drop_succ_cons, List.drop_zero, List.set_cons_zero, List.set_cons_succ, List.map_cons, List.map_nil, implies_true, forall_const, ne_eq, ho, e1]
    exact fpost_keep (.inr rfl) rfl trivial (fun _ => ⟨trivial, trivial, trivial⟩) fun hw => ⟨rfl, rfl⟩
  · have e1 : ((c.er : Int) == 0) = false := by simp; omega
    have hv : erV c.er = .iface 55 (.int .i64 (c.er : Int)) := by unfold erV; rw [erD_pos (by omega)]
    rw [hv, if_neg he]
    refine hgo_sound 90 ?_
    simp -implicitDefEqProofs (maxSteps := 1000000) only [simpS, ↓condJ_true, ↓condJ_false, ↓reduceIte, Nat.reduceEqDiff, Nat.reduceLT, Nat.reduceLeDiff, reduceCtorEq, Nat.reduceAdd, Nat.reduceSub, bindG_none, addG_none, hgrpK_none, nestK_none, hgrpK_guarded, Option.map_none, beq_self_eq_true, bne_self_eq_false, Option.map_some, if_true, if_false, List.getD_cons_zero, List.getD_cons_succ, List.length_cons, List.length_nil, List.mem_cons, List.not_mem_nil, List.mem_append, List.nil_append, List.cons_append, List.append_nil, List.take_succ_cons, List.take_zero, List.drop_succ_cons, List.drop_zero, List.set_cons_zero, List.set_cons_succ, List.map_cons, List.map_nil, implies_true, forall_const, ne_eq, ho, e1]
    refine hx_drawgo 1 ?_
    simp -implicitDefEqProofs (maxSteps := 100000000) only [drawS, List.map_cons, List.map_nil, List.getElem?_cons_zero, List.getElem?_cons_succ, List.getElem?_nil, simpS, ↓condJ_true, ↓condJ_false, ↓reduceIte, Nat.reduceEqDiff, Nat.reduceLT, Nat.reduceLeDiff, reduceCtorEq, Nat.reduceAdd, Nat.reduceSub, bindG_none, addG_none, hgrpK_none, nestK_none, hgrpK_guarded, Option.map_none, beq_self_eq_true, bne_self_eq_false, Option.map_some, if_true, if_false, List.getD_cons_zero, List.getD_cons_succ, List.length_cons, List.length_nil, List.mem_cons, List.not_mem_nil, List.mem_append, List.nil_append, List.cons_append, List.append_nil, List.take_succ_cons, List.take_zero, List.drop_succ_cons, List.drop_zero, List.set_cons_zero, List.set_cons_succ, List.map_cons, List.map_nil, implies_true, forall_const, ne_eq, hnt', ho, e1]
    refine hgo_sound 60 ?_
    simp -implicitDefEqProofs (maxSteps := 1000000) only [simpS, ↓condJ_true, ↓condJ_false, ↓reduceIte, Nat.reduceEqDiff, Nat.reduceLT, Nat.reduceLeDiff, reduceCtorEq, Nat.reduceAdd, Nat.reduceSub, bindG_none, addG_none, hgrpK_none, nestK_none, hgrpK_guarded, Option.map_none, beq_self_eq_true, bne_self_eq_false, Option.map_some, if_true, if_false, List.getD_cons_zero, List.getD_cons_succ, List.length_cons, List.length_nil, List.mem_cons, List.not_mem_nil, List.mem_append, List.nil_append, List.cons_append, List.append_nil, List.take_succ_cons, List.take_zero, List.drop_succ_cons, List.drop_zero, List.set_cons_zero, List.set_cons_succ, List.map_cons, List.map_nil, implies_true, forall_const, ne_eq]
    exact fpost_keep (.inr rfl) rfl trivial (fun _ => ⟨trivial, trivial, trivial⟩) fun hw => ⟨rfl, rfl⟩

theorem deep_calls (id : Nat) (c : Cu) (σ : St) (ho : σ.obj id = some (.box (encC c))) : HCalls Tryz.prog 34 [.ptr id 0] σ (fun d σ' => d = .int .i64 (c.dp : Int) ∧ σ' = σ) := by
  refine hcalls_body (fn := Tryz.f34) rfl c34 (by simp [h34]) (by simp [h34, Tryz.f34]) ?_
  intro M hP hr hnt hnx hwf hlt
  simp only [h34, argEnv]
  have hnt' : M.nt = 9 := hnt
  refine hgo_sound 90 ?_
  simp -implicitDefEqProofs (maxSteps := 1000000) only [simpS, ↓condJ_true, ↓condJ_false, ↓reduceIte, Nat.reduceEqDiff, Nat.reduceLT, Nat.reduceLeDiff, reduceCtorEq, Nat.reduceAdd, Nat.reduceSub, bindG_none, addG_none, hgrpK_none, nestK_none, hgrpK_guarded, Option.map_none, beq_self_eq_true, bne_self_eq_false, Option.map_some, if_true, if_false, List.getD_cons_zero, List.getD_cons_succ, List.length_cons, List.length_nil, List.mem_cons, List.not_mem_nil, List.mem_append, List.nil_append, List.cons_append, List.append_nil, List.take_succ_cons, List.take_zero, List.drop_succ_cons, List.drop_zero, List.set_cons_zero, List.set_cons_succ, List.map_cons, List.map_nil, implies_true, forall_const, ne_eq, ho]
  exact fpost_keep (.inr rfl) rfl trivial (fun _ => trivial) fun hw => ⟨rfl, rfl⟩

def downC (c : Cu) : Cu × Bool := if c.er = 0 then (if 200 ≤ c.dp then (failC c 3, false) else ({ c with dp := c.dp + 1 }, true)) else (c, false)

theorem cdown_calls (id : Nat) (c : Cu) (hc : c.ok) (σ : St) (ho : σ.obj id = some (.box (encC c))) : HCalls Tryz.prog 13 [.ptr id 0] σ (fun d σ' => d = .bool (downC c).2 ∧ σ' = σ.put id (.box (encC (downC c).1))) := by
  refine hcalls_body (fn := Tryz.f13) rfl c13 (by simp [h13]) (by simp [h13, Tryz.f13]) ?_
  intro M hP hr hnt hnx hwf hlt
  simp only [h13, argEnv]
  have hnt' : M.nt = 26 := hnt
  by_cases he : c.er = 0
  · have e1 : ((c.er : Int) != 0) = false := by rw [he]; rfl
    by_cases h1 : 200 ≤ c.dp
    · have d1 : decide ((c.dp : Int) ≥ 200) = true := decide_eq_true (by omega)
      have hf : downC c = (failC c 3, false) := by unfold downC; rw [if_pos he, if_pos h1]
      rw [hf]
      refine hgo_sound 90 ?_
      simp -implicitDefEqProofs (maxSteps := 1000000) only [simpS, ↓condJ_true, ↓condJ_false, ↓reduceIte, Nat.reduceEqDiff, Nat.reduceLT, Nat.reduceLeDiff, reduceCtorEq, Nat.reduceAdd, Nat.reduceSub, bindG_none, addG_none, hgrpK_none, nestK_none, hgrpK_guarded, Option.map_none, beq_self_eq_true, bne_self_eq_false, Option.map_some, if_true, if_false, List.getD_cons_zero, List.getD_cons_succ, List.length_cons, List.length_nil, List.mem_cons, List.not_mem_nil, List.mem_append, List.nil_append, List.cons_append, List.append_nil, List.take_succ_cons, List.take_zero, List.drop_succ_cons, List.drop_zero, List.set_cons_zero, List.set_cons_succ, List.map_cons, List.map_nil, implies_true, forall_const, ne_eq, ho, e1, d1]
      refine hx_call (f := .fn 17) rfl (by rw [hP]; exact hcallD_func (fail_calls id c hc 3 _ ho)) ?_
      rintro _ σ2 ⟨rfl, rfl⟩
      refine hgo_sound 60 ?_
      simp -implicitDefEqProofs (maxSteps := 1000000) only [simpS, ↓condJ_true, ↓condJ_false, ↓reduceIte, Nat.reduceEqDiff, Nat.reduceLT, Nat.reduceLeDiff, reduceCtorEq, Nat.reduceAdd, Nat.reduceSub, bindG_none, addG_none, hgrpK_none, nestK_none, hgrpK_guarded, Option.map_none, beq_self_eq_true, bne_self_eq_false, Option.map_some, if_true, if_false, List.getD_cons_zero, List.getD_cons_succ, List.length_cons, List.length_nil, List.mem_cons, List.not_mem_nil, List.mem_append, List.nil_append, List.cons_append, List.append_nil, List.take_succ_cons, List.take_zero, List.drop_succ_cons, List.drop_zero, List.set_cons_zero, List.set_cons_succ, List.map_cons, List.map_nil, implies_true, forall_const, ne_eq]
      exact fpost_keep (.inr rfl) rfl trivial (fun _ => trivial) fun hw => ⟨rfl, rfl⟩
    · have d1 : decide ((c.dp : Int) ≥ 200) = false := decide_eq_false (by omega)
      have hf : downC c = ({ c with dp := c.dp + 1 }, true) := by unfold downC; rw [if_pos he, if_neg h1]
      have hw : IntKind.i64.wrap ((c.dp : Int) + 1) = ((c.dp + 1 : Nat) : Int) := by rw [IntWalk.i64_in _ (by omega)]; rfl
      rw [hf]
      refine hgo_sound 90 ?_
      simp -implicitDefEqProofs (maxSteps := 1000000) only [simpS, ↓condJ_true, ↓condJ_false, ↓reduceIte, Nat.reduceEqDiff, Nat.reduceLT, Nat.reduceLeDiff, reduceCtorEq, Nat.reduceAdd, Nat.reduceSub, bindG_none, addG_none, hgrpK_none, nestK_none, hgrpK_guarded, Option.map_none, beq_self_eq_true, bne_self_eq_false, Option.map_some, if_true, if_false, List.getD_cons_zero, List.getD_cons_succ, List.length_cons, List.length_nil, List.mem_cons, List.not_mem_nil, List.mem_append, List.nil_append, List.cons_append, List.append_nil, List.take_succ_cons, List.take_zero, List.drop_succ_cons, List.drop_zero, List.set_cons_zero, List.set_cons_succ, List.map_cons, List.map_nil, implies_true, forall_const, ne_eq, ho, e1, d1, hw]
      exact fpost_keep (.inr rfl) rfl trivial (fun _ => trivial) fun hw => ⟨rfl, rfl⟩
  · have e1 : ((c.er : Int) != 0) = true := by simp; omega
    have hf : downC c = (c, false) := by unfold downC; rw [if_neg he]
    rw [hf]
    refine hgo_sound 90 ?_
    simp -implicitDefEqProofs (maxSteps := 1000000) only [simpS, ↓condJ_true, ↓condJ_false, ↓reduceIte, Nat.reduceEqDiff, Nat.reduceLT, Nat.reduceLeDiff, reduceCtorEq, Nat.reduceAdd, Nat.reduceSub, bindG_none, addG_none, hgrpK_none, nestK_none, hgrpK_guarded, Option.map_none, beq_self_eq_true, bne_self_eq_false, Option.map_some, if_true, if_false, List.getD_cons_zero, List.getD_cons_succ, List.length_cons, List.length_nil, List.mem_cons, List.not_mem_nil, List.mem_append, List.nil_append, List.cons_append, List.append_nil, List.take_succ_cons, List.take_zero, List.drop_succ_cons, List.drop_zero, List.set_cons_zero, List.set_cons_succ, List.map_cons, List.map_nil, implies_true, forall_const, ne_eq, ho, e1]
    exact fpost_keep (.inr rfl) rfl trivial (fun _ => trivial) fun hw => ⟨rfl, (put_self ho).symm⟩

def upC (c : Cu) : Cu := { c with dp := c.dp - 1 }

theorem cup_calls (id : Nat) (c : Cu) (hd : c.dp ≤ 1000000) (σ : St) (ho : σ.obj id = some (.box (encC c))) : HCalls Tryz.prog 15 [.ptr id 0] σ (fun _ σ' => σ' = σ.put id (.box (encC (upC c)))) := by
  refine hcalls_body (fn := Tryz.f15) rfl c15 (by simp [h15]) (by simp [h15, Tryz.f15]) ?_
  intro M hP hr hnt hnx hwf hlt
  simp only [h15, argEnv]
  have hnt' : M.nt = 13 := hnt
  have hw : IntKind.i64.wrap ((c.dp : Int) - 1) = (c.dp : Int) - 1 := by rw [IntWalk.i64_in _ (by omega)]
  have hm : (if (c.dp : Int) - 1 > 0 then (c.dp : Int) - 1 else 0) = ((c.dp - 1 : Nat) : Int) := by split <;> omega
  refine hgo_sound 90 ?_
  simp -implicitDefEqProofs (maxSteps := 1000000) only [simpS, ↓condJ_true, ↓condJ_false, ↓reduceIte, Nat.reduceEqDiff, Nat.reduceLT, Nat.reduceLeDiff, reduceCtorEq, Nat.reduceAdd, Nat.reduceSub, bindG_none, addG_none, hgrpK_none, nestK_none, hgrpK_guarded, Option.map_none, beq_self_eq_true, bne_self_eq_false, Option.map_some, if_true, if_false, List.getD_cons_zero, List.getD_cons_succ, List.length_cons, List.length_nil, List.mem_cons, List.not_mem_nil, List.mem_append, List.nil_append, List.cons_append, List.append_nil, List.take_succ_cons, List.take_zero, List.drop_succ_cons, List.drop_zero, List.set_cons_zero, List.set_cons_succ, List.map_cons, List.map_nil, implies_true, forall_const, ne_eq, ho, hw, hm]

  exact fpost_keep (.inl rfl) rfl trivial (fun _ => trivial) fun hw => rfl

def endC (c : Cu) : ByteArray := if c.er = 0 ∧ leftC c = 0 then c.s.extract c.la c.s.size else ⟨#[]⟩

theorem end_calls (id : Nat) (c : Cu) (hc : c.ok) (σ : St) (ho : σ.obj id = some (.box (encC c))) : HCalls Tryz.prog 36 [.ptr id 0] σ (fun d σ' => d = .str (endC c) ∧ σ' = σ) := by
  refine hcalls_body (fn := Tryz.f36) rfl c36 (by simp [h36]) (by simp [h36, Tryz.f36]) ?_
  intro M hP hr hnt hnx hwf hlt
  simp only [h36, argEnv]
  have hnt' : M.nt = 26 := hnt
  by_cases he : c.er = 0
  · have e1 : ((c.er : Int) != 0) = false := by rw [he]; rfl
    by_cases h1 : leftC c = 0
    · have d1 : decide ((leftC c : Int) > 0) = false := decide_eq_false (by omega)
      have hf : endC c = c.s.extract c.la c.s.size := by unfold endC; rw [if_pos ⟨he, h1⟩]
      have hla := hc.last
      have p1 : (c.la : Int) ≤ (c.s.size : Int) := by omega
      rw [hf]
      refine hgo_sound 90 ?_
      simp -implicitDefEqProofs (maxSteps := 1000000) only [simpS, ↓condJ_true, ↓condJ_false, ↓reduceIte, Nat.reduceEqDiff, Nat.reduceLT, Nat.reduceLeDiff, reduceCtorEq, Nat.reduceAdd, Nat.reduceSub, bindG_none, addG_none, hgrpK_none, nestK_none, hgrpK_guarded, Option.map_none, beq_self_eq_true, bne_self_eq_false, Option.map_some, if_true, if_false, List.getD_cons_zero, List.getD_cons_succ, List.length_cons, List.length_nil, List.mem_cons, List.not_mem_nil, List.mem_append, List.nil_append, List.cons_append, List.append_nil, List.take_succ_cons, List.take_zero, List.drop_succ_cons, List.drop_zero, List.set_cons_zero, List.set_cons_succ, List.map_cons, List.map_nil, implies_true, forall_const, ne_eq, ho, e1]
      refine hx_call (f := .fn 20) rfl (by rw [hP]; exact hcallD_func (left_calls id c hc _ ho)) ?_
      rintro _ σ2 ⟨rfl, h⟩
      subst σ2
      refine hgo_sound 90 ?_
      simp -implicitDefEqProofs (maxSteps := 1000000) only [simpS, ↓condJ_true, ↓condJ_false, ↓reduceIte, Nat.reduceEqDiff, Nat.reduceLT, Nat.reduceLeDiff, reduceCtorEq, Nat.reduceAdd, Nat.reduceSub, bindG_none, addG_none, hgrpK_none, nestK_none, hgrpK_guarded, Option.map_none, beq_self_eq_true, bne_self_eq_false, Option.map_some, if_true, if_false, List.getD_cons_zero, List.getD_cons_succ, List.length_cons, List.length_nil, List.mem_cons, List.not_mem_nil, List.mem_append, List.nil_append, List.cons_append, List.append_nil, List.take_succ_cons, List.take_zero, List.drop_succ_cons, List.drop_zero, List.set_cons_zero, List.set_cons_succ, List.map_cons, List.map_nil, implies_true, forall_const, ne_eq, ho, d1]
      refine hx_drawgo 1 ?_
      simp -implicitDefEqProofs (maxSteps := 100000000) only [drawS, List.map_cons, List.map_nil, List.getElem?_cons_zero, List.getElem?_cons_succ, List.getElem?_nil, simpS, ↓condJ_true, ↓condJ_false, ↓reduceIte, Nat.reduceEqDiff, Nat.reduceLT, Nat.reduceLeDiff, reduceCtorEq, Nat.reduceAdd, Nat.reduceSub, bindG_none, addG_none, hgrpK_none, nestK_none, hgrpK_guarded, Option.map_none, beq_self_eq_true, bne_self_eq_false, Option.map_some, if_true, if_false, List.getD_cons_zero, List.getD_cons_succ, List.length_cons, List.length_nil, List.mem_cons, List.not_mem_nil, List.mem_append, List.nil_append, List.cons_append, List.append_nil, List.take_succ_cons, List.take_zero, List.drop_succ_cons, List.drop_zero, List.set_cons_zero, List.set_cons_succ, List.map_cons, List.map_nil, implies_true, forall_const, ne_eq, hnt', ho, p1, Int.toNat_natCast, Int.natCast_nonneg]
      refine hgo_sound 60 ?_
      simp -implicitDefEqProofs (maxSteps := 1000000) only [simpS, ↓condJ_true, ↓condJ_false, ↓reduceIte, Nat.reduceEqDiff, Nat.reduceLT, Nat.reduceLeDiff, reduceCtorEq, Nat.reduceAdd, Nat.reduceSub, bindG_none, addG_none, hgrpK_none, nestK_none, hgrpK_guarded, Option.map_none, beq_self_eq_true, bne_self_eq_false, Option.map_some, if_true, if_false, List.getD_cons_zero, List.getD_cons_succ, List.length_cons, List.length_nil, List.mem_cons, List.not_mem_nil, List.mem_append, List.nil_append, List.cons_append, List.append_nil, List.take_succ_cons, List.take_zero, List.drop_succ_cons, List.drop_zero, List.set_cons_zero, List.set_cons_succ, List.map_cons, List.map_nil, implies_true, forall_const, ne_eq]
      exact fpost_keep (.inr rfl) rfl trivial (fun _ => trivial) fun hw => ⟨rfl, rfl⟩
    · have d1 : decide ((leftC c : Int) > 0) = true := decide_eq_true (by omega)
      have hf : endC c = ⟨#[]⟩ := by unfold endC; rw [if_neg (fun h => h1 h.2)]
      rw [hf]
      refine hgo_sound 90 ?_
      simp -implicitDefEqProofs (maxSteps := 1000000) only [simpS, ↓condJ_true, ↓condJ_false, ↓reduceIte, Nat.reduceEqDiff, Nat.reduceLT, Nat.reduceLeDiff, reduceCtorEq, Nat.reduceAdd, Nat.reduceSub, bindG_none, addG_none, hgrpK_none, nestK_none, hgrpK_guarded, Option.map_none, beq_self_eq_true, bne_self_eq_false, Option.map_some, if_true, if_false, List.getD_cons_zero, List.getD_cons_succ, List.length_cons, List.length_nil, List.mem_cons, List.not_mem_nil, List.mem_append, List.nil_append, List.cons_append, List.append_nil, List.take_succ_cons, List.take_zero, List.drop_succ_cons, List.drop_zero, List.set_cons_zero, List.set_cons_succ, List.map_cons, List.map_nil, implies_true, forall_const, ne_eq, ho, e1]
      refine hx_call (f := .fn 20) rfl (by rw [hP]; exact hcallD_func (left_calls id c hc _ ho)) ?_
      rintro _ σ2 ⟨rfl, h⟩
      subst σ2
      refine hgo_sound 90 ?_
      simp -implicitDefEqProofs (maxSteps := 1000000) only [simpS, ↓condJ_true, ↓condJ_false, ↓reduceIte, Nat.reduceEqDiff, Nat.reduceLT, Nat.reduceLeDiff, reduceCtorEq, Nat.reduceAdd, Nat.reduceSub, bindG_none, addG_none, hgrpK_none, nestK_none, hgrpK_guarded, Option.map_none, beq_self_eq_true, bne_self_eq_false, Option.map_some, if_true, if_false, List.getD_cons_zero, List.getD_cons_succ, List.length_cons, List.length_nil, List.mem_cons, List.not_mem_nil, List.mem_append, List.nil_append, List.cons_append, List.append_nil, List.take_succ_cons, List.take_zero, List.drop_succ_cons, List.drop_zero, List.set_cons_zero, List.set_cons_succ, List.map_cons, List.map_nil, implies_true, forall_const, ne_eq, ho, d1]
      exact fpost_keep (.inr rfl) rfl trivial (fun _ => trivial) fun hw => ⟨rfl, rfl⟩
  · have e1 : ((c.er : Int) != 0) = true := by simp; omega
    have hf : endC c = ⟨#[]⟩ := by unfold endC; rw [if_neg (fun h => he h.1)]
    rw [hf]
    refine hgo_sound 90 ?_
    simp -implicitDefEqProofs (maxSteps := 1000000) only [simpS, ↓condJ_true, ↓condJ_false, ↓reduceIte, Nat.reduceEqDiff, Nat.reduceLT, Nat.reduceLeDiff, reduceCtorEq, Nat.reduceAdd, Nat.reduceSub, bindG_none, addG_none, hgrpK_none, nestK_none, hgrpK_guarded, Option.map_none, beq_self_eq_true, bne_self_eq_false, Option.map_some, if_true, if_false, List.getD_cons_zero, List.getD_cons_succ, List.length_cons, List.length_nil, List.mem_cons, List.not_mem_nil, List.mem_append, List.nil_append, List.cons_append, List.append_nil, List.take_succ_cons, List.take_zero, List.drop_succ_cons, List.drop_zero, List.set_cons_zero, List.set_cons_succ, List.map_cons, List.map_nil, implies_true, forall_const, ne_eq, ho, e1]
    exact fpost_keep (.inr rfl) rfl trivial (fun _ => trivial) fun hw => ⟨rfl, rfl⟩

end Go.Hl
