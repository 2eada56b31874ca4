/-
  Layer 6: the real tokens; the law LexReals.
-/
import Derived.Test.YtijcddlahidhhaaDoorLxG
set_option linter.unusedSectionVars false
set_option linter.unusedVariables false
set_option linter.unusedSimpArgs false
set_option maxRecDepth 100000

namespace Go.Hl
open Go Go.Proofs Go.RowKit

def badAt : List Tk3 → Option Nat
  | [] => none
  | x :: r => if x.k = 7 then some x.f else badAt r
def isReal (x : Tk3) : Bool := decide (2 < x.k)
def realsL (l : List Tk3) : List Tk3 := l.filter isReal

theorem wordK_pos (s : ByteArray) : 1 ≤ wordK s ∧ wordK s ≤ 7 := by
  unfold wordK
  split
  · simp
  split
  · simp
  split <;> simp
theorem lexN_kind (l : List UInt8) : 1 ≤ (lexN l).1 ∧ (lexN l).1 ≤ 7 := by
  unfold lexN
  split
  · simp
  split
  · simp
  split
  · split <;> simp
  split
  · simp
  split
  · exact wordK_pos _
  split
  · simp
  split <;> simp
theorem toks_kind : ∀ (n : Nat) (l : List UInt8) (a : Nat), l.length ≤ n → ∀ x ∈ toks l a, 1 ≤ x.k ∧ x.k ≤ 7 ∧ a ≤ x.f ∧ x.f < x.t ∧ x.t ≤ a + l.length
  | 0, l, a, h, x, hx => by
    have : l = [] := List.length_eq_zero_iff.1 (by omega)
    subst this
    simp [toks_nil] at hx
  | n + 1, l, a, h, x, hx => by
    by_cases hl : l = []
    · subst hl; simp [toks_nil] at hx
    · have h1 := lexN_len l hl
      have h2 := lexN_kind l
      rw [toks_cons l a hl] at hx
      rcases List.mem_cons.1 hx with rfl | hx
      · simp only; omega
      · have := toks_kind n (l.drop (lexN l).2) (a + (lexN l).2) (by rw [List.length_drop]; omega) x hx
        rw [List.length_drop] at this
        omega
theorem toksS (s : ByteArray) : ∀ x ∈ toks s.data.toList 0, 1 ≤ x.k ∧ x.k ≤ 7 ∧ x.f < x.t ∧ x.t ≤ s.size := fun x hx => by
  have := toks_kind s.size s.data.toList 0 (by rw [len_list]; exact Nat.le_refl _) x hx
  rw [len_list] at this
  omega

theorem realsL_le (l : List Tk3) : (realsL l).length ≤ l.length := List.length_filter_le _ _

def realR (l : List Tk3) : List Tk3 := match badAt l with | some _ => [] | none => realsL l
def realA (l : List Tk3) : Nat := match badAt l with | some f => f | none => 0
def realE (l : List Tk3) : Int := match badAt l with | some f => 2 | none => 0

structure RqS where
  c : List Tk3
  b : Option Nat

def rqStep (t : RqS) (x : Tk3) : RqS × Option HC :=
  if x.k = 7 then (⟨t.c, some x.f⟩, some .ret) else if x.k = 1 ∨ x.k = 2 then (t, none) else (⟨t.c ++ [x], t.b⟩, none)
theorem rqStep_run : ∀ (l : List Tk3) (c : List Tk3), (∀ x ∈ l, 1 ≤ x.k) →
    ∃ c', rngRun rqStep ⟨c, none⟩ l = match badAt l with | some f => (⟨c', some f⟩, some .ret) | none => (⟨c ++ realsL l, none⟩, none)
  | [], c, _ => ⟨c, by simp [rngRun, badAt, realsL]⟩
  | x :: l, c, h => by
    have hx := h x (List.mem_cons_self ..)
    have hl : ∀ y ∈ l, 1 ≤ y.k := fun y hy => h y (List.mem_cons_of_mem _ hy)
    simp only [rngRun, rqStep, badAt]
    by_cases h7 : x.k = 7
    · rw [if_pos h7, if_pos h7]
      exact ⟨c, rfl⟩
    · rw [if_neg h7, if_neg h7]
      by_cases h12 : x.k = 1 ∨ x.k = 2
      · rw [if_pos h12]
        simp only
        obtain ⟨c', hc⟩ := rqStep_run l c hl
        have hf : isReal x = false := by unfold isReal; exact decide_eq_false (by omega)
        refine ⟨c', ?_⟩
        rw [hc]
        simp only [realsL, List.filter_cons, hf, Bool.false_eq_true, if_false]
      · rw [if_neg h12]
        simp only
        obtain ⟨c', hc⟩ := rqStep_run l (c ++ [x]) hl
        have hf : isReal x = true := by unfold isReal; exact decide_eq_true (by omega)
        refine ⟨c', ?_⟩
        rw [hc]
        simp only [realsL, List.filter_cons, hf, if_true, List.append_assoc, List.cons_append, List.nil_append]
theorem rqStep_oks : ∀ (l : List Tk3) (t : RqS), t.b = none → t.c.length + l.length ≤ 1073741824 → rngOks (fun (t : RqS) (x : Tk3) => t.c.length + 1 ≤ 1073741824 ∧ t.b = none) rqStep t l
  | [], t, _, _ => trivial
  | x :: xs, t, hb, h => by
    simp only [List.length_cons] at h
    refine ⟨⟨by omega, hb⟩, fun hn => ?_⟩
    unfold rqStep at hn ⊢
    split
    · rename_i h7
      rw [if_pos h7] at hn
      cases hn
    · split
      · exact rqStep_oks xs t hb (by omega)
      · exact rqStep_oks xs _ hb (by simp only [List.length_append, List.length_cons, List.length_nil]; omega)

def rqErr : Option Nat → D
  | some _ => .iface 32 (.int .i64 2)
  | none => .nili
def rqAt : Option Nat → Int
  | some f => f
  | none => 0
def rqS (σ : St) (t : RqS) : St :=
  ((((σ.new (.bx none [.slice .nil 0 []])).new (.bx none [.int .i64 (rqAt t.b)])).new (.bx none [rqErr t.b])).new (.bx none [.slice (.tok (σ.next + 4)) 3 (encTk t.c)])).new (.tok 58 t.c.length)
theorem rqS_next (σ : St) (t : RqS) : (rqS σ t).next = σ.next + 5 := rfl
theorem rqS_wf {σ : St} (hw : σ.wf) (t : RqS) : (rqS σ t).wf := by
  refine St.wf.new2 (((hw.box (cs := [.slice .nil 0 []]) ⟨⟨trivial, trivial⟩, trivial⟩).box (cs := [.int .i64 (rqAt t.b)]) ⟨trivial, trivial⟩).box (cs := [rqErr t.b]) ⟨by cases t.b <;> trivial, trivial⟩) ?_ trivial
  refine ⟨⟨?_, encTk_lt _ _⟩, trivial⟩
  show σ.next + 4 < σ.next + 3 + 2
  omega
theorem rqS_ext (σ : St) (t : RqS) : Ext σ (rqS σ t) := (((((Ext.refl σ).new _).new _).new _).new _).new _
theorem rqS_0 (σ : St) (t : RqS) : (rqS σ t).obj σ.next = some (.bx none [.slice .nil 0 []]) := by simp only [rqS, simpS, ↓condJ_true, ↓condJ_false, ↓reduceIte, Nat.reduceEqDiff, Nat.reduceLT, Nat.reduceLeDiff, reduceCtorEq, Nat.reduceAdd, Nat.reduceSub, bindG_none, addG_none, hgrpK_none, nestK_none, hgrpK_guarded, Option.map_none, beq_self_eq_true, bne_self_eq_false, Option.map_some, if_true, if_false, List.getD_cons_zero, List.getD_cons_succ, List.length_cons, List.length_nil, List.mem_cons, List.not_mem_nil, List.mem_append, List.nil_append, List.cons_append, List.append_nil, List.take_succ_cons, List.take_zero, List.drop_succ_cons, List.drop_zero, List.set_cons_zero, List.set_cons_succ, List.map_cons, List.map_nil, implies_true, forall_const, ne_eq]
theorem rqS_1 (σ : St) (t : RqS) : (rqS σ t).obj (σ.next + 1) = some (.bx none [.int .i64 (rqAt t.b)]) := by simp only [rqS, simpS, ↓condJ_true, ↓condJ_false, ↓reduceIte, Nat.reduceEqDiff, Nat.reduceLT, Nat.reduceLeDiff, reduceCtorEq, Nat.reduceAdd, Nat.reduceSub, bindG_none, addG_none, hgrpK_none, nestK_none, hgrpK_guarded, Option.map_none, beq_self_eq_true, bne_self_eq_false, Option.map_some, if_true, if_false, List.getD_cons_zero, List.getD_cons_succ, List.length_cons, List.length_nil, List.mem_cons, List.not_mem_nil, List.mem_append, List.nil_append, List.cons_append, List.append_nil, List.take_succ_cons, List.take_zero, List.drop_succ_cons, List.drop_zero, List.set_cons_zero, List.set_cons_succ, List.map_cons, List.map_nil, implies_true, forall_const, ne_eq]
theorem rqS_2 (σ : St) (t : RqS) : (rqS σ t).obj (σ.next + 2) = some (.bx none [rqErr t.b]) := by simp only [rqS, simpS, ↓condJ_true, ↓condJ_false, ↓reduceIte, Nat.reduceEqDiff, Nat.reduceLT, Nat.reduceLeDiff, reduceCtorEq, Nat.reduceAdd, Nat.reduceSub, bindG_none, addG_none, hgrpK_none, nestK_none, hgrpK_guarded, Option.map_none, beq_self_eq_true, bne_self_eq_false, Option.map_some, if_true, if_false, List.getD_cons_zero, List.getD_cons_succ, List.length_cons, List.length_nil, List.mem_cons, List.not_mem_nil, List.mem_append, List.nil_append, List.cons_append, List.append_nil, List.take_succ_cons, List.take_zero, List.drop_succ_cons, List.drop_zero, List.set_cons_zero, List.set_cons_succ, List.map_cons, List.map_nil, implies_true, forall_const, ne_eq]
theorem rqS_3 (σ : St) (t : RqS) : (rqS σ t).obj (σ.next + 3) = some (.bx none [.slice (.tok (σ.next + 4)) 3 (encTk t.c)]) := by simp only [rqS, simpS, ↓condJ_true, ↓condJ_false, ↓reduceIte, Nat.reduceEqDiff, Nat.reduceLT, Nat.reduceLeDiff, reduceCtorEq, Nat.reduceAdd, Nat.reduceSub, bindG_none, addG_none, hgrpK_none, nestK_none, hgrpK_guarded, Option.map_none, beq_self_eq_true, bne_self_eq_false, Option.map_some, if_true, if_false, List.getD_cons_zero, List.getD_cons_succ, List.length_cons, List.length_nil, List.mem_cons, List.not_mem_nil, List.mem_append, List.nil_append, List.cons_append, List.append_nil, List.take_succ_cons, List.take_zero, List.drop_succ_cons, List.drop_zero, List.set_cons_zero, List.set_cons_succ, List.map_cons, List.map_nil, implies_true, forall_const, ne_eq]
theorem rqS_4 (σ : St) (t : RqS) : (rqS σ t).obj (σ.next + 4) = some (.tok 58 t.c.length) := by simp only [rqS, simpS, ↓condJ_true, ↓condJ_false, ↓reduceIte, Nat.reduceEqDiff, Nat.reduceLT, Nat.reduceLeDiff, reduceCtorEq, Nat.reduceAdd, Nat.reduceSub, bindG_none, addG_none, hgrpK_none, nestK_none, hgrpK_guarded, Option.map_none, beq_self_eq_true, bne_self_eq_false, Option.map_some, if_true, if_false, List.getD_cons_zero, List.getD_cons_succ, List.length_cons, List.length_nil, List.mem_cons, List.not_mem_nil, List.mem_append, List.nil_append, List.cons_append, List.append_nil, List.take_succ_cons, List.take_zero, List.drop_succ_cons, List.drop_zero, List.set_cons_zero, List.set_cons_succ, List.map_cons, List.map_nil, implies_true, forall_const, ne_eq]

set_option maxHeartbeats 4000000 in
theorem real_calls (s : ByteArray) (hs : s.size ≤ 1073741824) (σ : St) (hg : GM σ) : HCalls Tryd.prog 23 [.str s] σ (fun d σ' => d = .tuple [.slice .no 3 (encTk (realR (toks s.data.toList 0))), .int .i64 (realA (toks s.data.toList 0) : Nat), erD (realE (toks s.data.toList 0))] ∧ σ' = σ) := by
  refine hcalls_body (fn := Tryd.f23) rfl c23 (by simp [h23]) (by simp [h23, Tryd.f23]) ?_
  intro M hP hr hnt hnx hwf hlt
  simp only [h23, argEnv]
  have hit := all_iter s hs σ.glob (fun _ h => hg.to h)
  have hkd : ∀ x ∈ toks s.data.toList 0, 1 ≤ x.k := fun x hx => (toksS s x hx).1
  have hle := toks_le s
  obtain ⟨c', hrun⟩ := rqStep_run (toks s.data.toList 0) [] hkd
  unfold realR realA realE
  generalize toks s.data.toList 0 = W at *
  refine hgo_sound 10 ?_
  simp -implicitDefEqProofs (maxSteps := 1000000) only [simpS, ↓condJ_true, ↓condJ_false, ↓reduceIte, Nat.reduceEqDiff, Nat.reduceLT, Nat.reduceLeDiff, reduceCtorEq, Nat.reduceAdd, Nat.reduceSub, bindG_none, addG_none, hgrpK_none, nestK_none, hgrpK_guarded, Option.map_none, beq_self_eq_true, bne_self_eq_false, Option.map_some, if_true, if_false, List.getD_cons_zero, List.getD_cons_succ, List.length_cons, List.length_nil, List.mem_cons, List.not_mem_nil, List.mem_append, List.nil_append, List.cons_append, List.append_nil, List.take_succ_cons, List.take_zero, List.drop_succ_cons, List.drop_zero, List.set_cons_zero, List.set_cons_succ, List.map_cons, List.map_nil, implies_true, forall_const, ne_eq]
  refine hx_full_box (id := σ.next + 3) (j := 0) (cs := [.slice .nil 0 []]) (ot := none) 58 3 (by simp -implicitDefEqProofs (maxSteps := 1000000) only [simpS, ↓condJ_true, ↓condJ_false, ↓reduceIte, Nat.reduceEqDiff, Nat.reduceLT, Nat.reduceLeDiff, reduceCtorEq, Nat.reduceAdd, Nat.reduceSub, bindG_none, addG_none, hgrpK_none, nestK_none, hgrpK_guarded, Option.map_none, beq_self_eq_true, bne_self_eq_false, Option.map_some, if_true, if_false, List.getD_cons_zero, List.getD_cons_succ, List.length_cons, List.length_nil, List.mem_cons, List.not_mem_nil, List.mem_append, List.nil_append, List.cons_append, List.append_nil, List.take_succ_cons, List.take_zero, List.drop_succ_cons, List.drop_zero, List.set_cons_zero, List.set_cons_succ, List.map_cons, List.map_nil, implies_true, forall_const, ne_eq]) rfl ?_ (fun _ e => by cases e) (fun _ e => by cases e)
  refine hgo_sound 8 ?_
  simp -implicitDefEqProofs (maxSteps := 1000000) only [simpS, ↓condJ_true, ↓condJ_false, ↓reduceIte, Nat.reduceEqDiff, Nat.reduceLT, Nat.reduceLeDiff, reduceCtorEq, Nat.reduceAdd, Nat.reduceSub, bindG_none, addG_none, hgrpK_none, nestK_none, hgrpK_guarded, Option.map_none, beq_self_eq_true, bne_self_eq_false, Option.map_some, if_true, if_false, List.getD_cons_zero, List.getD_cons_succ, List.length_cons, List.length_nil, List.mem_cons, List.not_mem_nil, List.mem_append, List.nil_append, List.cons_append, List.append_nil, List.take_succ_cons, List.take_zero, List.drop_succ_cons, List.drop_zero, List.set_cons_zero, List.set_cons_succ, List.map_cons, List.map_nil, implies_true, forall_const, ne_eq]
  refine hx_call (f := .fn 32) rfl (by rw [hP]; exact hcallD_func (all_calls s _)) ?_
  rintro _ σ2 ⟨rfl, h⟩
  subst σ2
  refine hgo_sound 6 ?_
  simp -implicitDefEqProofs (maxSteps := 1000000) only [simpS, ↓condJ_true, ↓condJ_false, ↓reduceIte, Nat.reduceEqDiff, Nat.reduceLT, Nat.reduceLeDiff, reduceCtorEq, Nat.reduceAdd, Nat.reduceSub, bindG_none, addG_none, hgrpK_none, nestK_none, hgrpK_guarded, Option.map_none, beq_self_eq_true, bne_self_eq_false, Option.map_some, if_true, if_false, List.getD_cons_zero, List.getD_cons_succ, List.length_cons, List.length_nil, List.mem_cons, List.not_mem_nil, List.mem_append, List.nil_append, List.cons_append, List.append_nil, List.take_succ_cons, List.take_zero, List.drop_succ_cons, List.drop_zero, List.set_cons_zero, List.set_cons_succ, List.map_cons, List.map_nil, implies_true, forall_const, ne_eq]
  refine hx_know_code fun hw hl hn => ?_
  refine hx_range_foldA (fn := 40) (caps := [.eptr [.str s] 0]) (xs := W) (enc := fun x => [D.agg (encK3 x)]) (fun t : RqS => rqS σ t)
    (fun (t : RqS) (x : Tk3) => t.c.length + 1 ≤ 1073741824 ∧ t.b = none) rqStep ⟨[], none⟩ rfl (by rw [hP]; rfl) (fun _ _ h => by rw [hr] at h; cases h) (by rw [hP]; exact hit) ?_
    (fun c => rfl) (fun c c' => rfl) (fun t => rqS_wf hwf t) hl (rqStep_oks _ _ rfl (by simp only [List.length_nil]; omega)) (fun _ => rfl) (by rw [hnt]; decide) ?_ ?_
  · refine St.ext' (fun q => ?_) rfl rfl
    simp only [rqS, St.obj_new, St.obj_put, St.next_new, Nat.add_assoc, Nat.reduceAdd, rqAt, rqErr]
    by_cases q1 : q = σ.next + 3
    · simp [q1, encTk]
    · by_cases q2 : q = σ.next + 4 <;> simp [q1, q2]
  · rintro ⟨c, bo⟩ x ρ ⟨hk, rfl⟩ hle2 hτ hgl2 M' hP' hnt2 hr' hnx' hwf' hlt'
    simp only at hk
    simp only [St.next_new, St.next_put, Nat.add_assoc, Nat.reduceAdd, rqS_next] at hle2 hl ⊢
    simp only [putsE]
    have hnt3 : M'.nt = 25 := by rw [hnt2]; exact hnt
    have n1 : ¬ ρ.next < σ.next + 6 := by omega
    have n2 : ¬ ρ.next + 1 < σ.next + 6 := by omega
    have hsz : (c.length + 1) * 24 ≤ 140737488355328 := by omega
    have hsz2 : c.length + 1 ≤ 9223372036854775807 := by omega
    unfold rqStep
    by_cases h7 : x.k = 7
    · have hb7 : ((x.k : Int) == 7) = true := by rw [h7]; rfl
      rw [if_pos h7]
      refine hgo_sound 60 ?_
      simp -implicitDefEqProofs (maxSteps := 1000000) only [simpS, ↓condJ_true, ↓condJ_false, ↓reduceIte, Nat.reduceEqDiff, Nat.reduceLT, Nat.reduceLeDiff, reduceCtorEq, Nat.reduceAdd, Nat.reduceSub, bindG_none, addG_none, hgrpK_none, nestK_none, hgrpK_guarded, Option.map_none, beq_self_eq_true, bne_self_eq_false, Option.map_some, if_true, if_false, List.getD_cons_zero, List.getD_cons_succ, List.length_cons, List.length_nil, List.mem_cons, List.not_mem_nil, List.mem_append, List.nil_append, List.cons_append, List.append_nil, List.take_succ_cons, List.take_zero, List.drop_succ_cons, List.drop_zero, List.set_cons_zero, List.set_cons_succ, List.map_cons, List.map_nil, implies_true, forall_const, ne_eq, hle2, n1, rqS_next]
      refine hgo_sound 60 ?_
      simp -implicitDefEqProofs (maxSteps := 1000000) only [simpS, ↓condJ_true, ↓condJ_false, ↓reduceIte, Nat.reduceEqDiff, Nat.reduceLT, Nat.reduceLeDiff, reduceCtorEq, Nat.reduceAdd, Nat.reduceSub, bindG_none, addG_none, hgrpK_none, nestK_none, hgrpK_guarded, Option.map_none, beq_self_eq_true, bne_self_eq_false, Option.map_some, if_true, if_false, List.getD_cons_zero, List.getD_cons_succ, List.length_cons, List.length_nil, List.mem_cons, List.not_mem_nil, List.mem_append, List.nil_append, List.cons_append, List.append_nil, List.take_succ_cons, List.take_zero, List.drop_succ_cons, List.drop_zero, List.set_cons_zero, List.set_cons_succ, List.map_cons, List.map_nil, implies_true, forall_const, ne_eq, hle2, n1, n2, rqS_next, hb7]
      refine hx_drawgo 4 ?_
      simp -implicitDefEqProofs (maxSteps := 3000000) only [drawS, List.map_cons, List.map_nil, List.getElem?_cons_zero, List.getElem?_cons_succ, List.getElem?_nil, simpS, ↓condJ_true, ↓condJ_false, ↓reduceIte, Nat.reduceEqDiff, Nat.reduceLT, Nat.reduceLeDiff, reduceCtorEq, Nat.reduceAdd, Nat.reduceSub, bindG_none, addG_none, hgrpK_none, nestK_none, hgrpK_guarded, Option.map_none, beq_self_eq_true, bne_self_eq_false, Option.map_some, if_true, if_false, List.getD_cons_zero, List.getD_cons_succ, List.length_cons, List.length_nil, List.mem_cons, List.not_mem_nil, List.mem_append, List.nil_append, List.cons_append, List.append_nil, List.take_succ_cons, List.take_zero, List.drop_succ_cons, List.drop_zero, List.set_cons_zero, List.set_cons_succ, List.map_cons, List.map_nil, implies_true, forall_const, ne_eq, hnt3, hle2, n1, n2, rqS_next, rqS_0, rqS_1, rqS_2, rqS_3, rqS_4]
      refine hx_ret (round_ret (n := σ.next + 5) ?_ rfl (rqS_wf hwf ⟨c, some x.f⟩) hl hτ hle2 ((Ext.refl ρ).new _))
      refine St.ext' (fun q => ?_) rfl rfl
      simp only [rqS, St.obj_new, St.obj_put, St.next_new, St.next_put, Nat.add_assoc, Nat.reduceAdd, rqAt, rqErr]
      by_cases q1 : q = σ.next
      · simp [q1]
      · by_cases q2 : q = σ.next + 1
        · simp [q2]
        · by_cases q3 : q = σ.next + 2 <;> simp [q1, q2, q3]
    · have hb7 : ((x.k : Int) == 7) = false := by simp only [beq_eq_false_iff_ne, ne_eq]; omega
      rw [if_neg h7]
      by_cases h1 : x.k = 1
      · have hb1 : ((x.k : Int) == 1) = true := by rw [h1]; rfl
        rw [if_pos (.inl h1)]
        refine hgo_sound 60 ?_
        simp -implicitDefEqProofs (maxSteps := 1000000) only [simpS, ↓condJ_true, ↓condJ_false, ↓reduceIte, Nat.reduceEqDiff, Nat.reduceLT, Nat.reduceLeDiff, reduceCtorEq, Nat.reduceAdd, Nat.reduceSub, bindG_none, addG_none, hgrpK_none, nestK_none, hgrpK_guarded, Option.map_none, beq_self_eq_true, bne_self_eq_false, Option.map_some, if_true, if_false, List.getD_cons_zero, List.getD_cons_succ, List.length_cons, List.length_nil, List.mem_cons, List.not_mem_nil, List.mem_append, List.nil_append, List.cons_append, List.append_nil, List.take_succ_cons, List.take_zero, List.drop_succ_cons, List.drop_zero, List.set_cons_zero, List.set_cons_succ, List.map_cons, List.map_nil, implies_true, forall_const, ne_eq, hle2, n1, rqS_next]
        refine hgo_sound 60 ?_
        simp -implicitDefEqProofs (maxSteps := 1000000) only [simpS, ↓condJ_true, ↓condJ_false, ↓reduceIte, Nat.reduceEqDiff, Nat.reduceLT, Nat.reduceLeDiff, reduceCtorEq, Nat.reduceAdd, Nat.reduceSub, bindG_none, addG_none, hgrpK_none, nestK_none, hgrpK_guarded, Option.map_none, beq_self_eq_true, bne_self_eq_false, Option.map_some, if_true, if_false, List.getD_cons_zero, List.getD_cons_succ, List.length_cons, List.length_nil, List.mem_cons, List.not_mem_nil, List.mem_append, List.nil_append, List.cons_append, List.append_nil, List.take_succ_cons, List.take_zero, List.drop_succ_cons, List.drop_zero, List.set_cons_zero, List.set_cons_succ, List.map_cons, List.map_nil, implies_true, forall_const, ne_eq, hle2, n1, n2, rqS_next, rqS_0, rqS_1, rqS_2, rqS_3, rqS_4, hb7, hb1]
        exact round_next rfl rfl (rqS_wf hwf ⟨c, none⟩) hl hτ hle2 ((Ext.refl ρ).new _)
      · have hb1 : ((x.k : Int) == 1) = false := by simp only [beq_eq_false_iff_ne, ne_eq]; omega
        by_cases h2 : x.k = 2
        · have hb2 : ((x.k : Int) == 2) = true := by rw [h2]; rfl
          rw [if_pos (.inr h2)]
          refine hgo_sound 60 ?_
          simp -implicitDefEqProofs (maxSteps := 1000000) only [simpS, ↓condJ_true, ↓condJ_false, ↓reduceIte, Nat.reduceEqDiff, Nat.reduceLT, Nat.reduceLeDiff, reduceCtorEq, Nat.reduceAdd, Nat.reduceSub, bindG_none, addG_none, hgrpK_none, nestK_none, hgrpK_guarded, Option.map_none, beq_self_eq_true, bne_self_eq_false, Option.map_some, if_true, if_false, List.getD_cons_zero, List.getD_cons_succ, List.length_cons, List.length_nil, List.mem_cons, List.not_mem_nil, List.mem_append, List.nil_append, List.cons_append, List.append_nil, List.take_succ_cons, List.take_zero, List.drop_succ_cons, List.drop_zero, List.set_cons_zero, List.set_cons_succ, List.map_cons, List.map_nil, implies_true, forall_const, ne_eq, hle2, n1, rqS_next]
          refine hgo_sound 60 ?_
          simp -implicitDefEqProofs (maxSteps := 1000000) only [simpS, ↓condJ_true, ↓condJ_false, ↓reduceIte, Nat.reduceEqDiff, Nat.reduceLT, Nat.reduceLeDiff, reduceCtorEq, Nat.reduceAdd, Nat.reduceSub, bindG_none, addG_none, hgrpK_none, nestK_none, hgrpK_guarded, Option.map_none, beq_self_eq_true, bne_self_eq_false, Option.map_some, if_true, if_false, List.getD_cons_zero, List.getD_cons_succ, List.length_cons, List.length_nil, List.mem_cons, List.not_mem_nil, List.mem_append, List.nil_append, List.cons_append, List.append_nil, List.take_succ_cons, List.take_zero, List.drop_succ_cons, List.drop_zero, List.set_cons_zero, List.set_cons_succ, List.map_cons, List.map_nil, implies_true, forall_const, ne_eq, hle2, n1, n2, rqS_next, rqS_0, rqS_1, rqS_2, rqS_3, rqS_4, hb7, hb1, hb2]
          exact round_next rfl rfl (rqS_wf hwf ⟨c, none⟩) hl hτ hle2 ((Ext.refl ρ).new _)
        · have hb2 : ((x.k : Int) == 2) = false := by simp only [beq_eq_false_iff_ne, ne_eq]; omega
          rw [if_neg (by omega)]
          refine hgo_sound 60 ?_
          simp -implicitDefEqProofs (maxSteps := 1000000) only [simpS, ↓condJ_true, ↓condJ_false, ↓reduceIte, Nat.reduceEqDiff, Nat.reduceLT, Nat.reduceLeDiff, reduceCtorEq, Nat.reduceAdd, Nat.reduceSub, bindG_none, addG_none, hgrpK_none, nestK_none, hgrpK_guarded, Option.map_none, beq_self_eq_true, bne_self_eq_false, Option.map_some, if_true, if_false, List.getD_cons_zero, List.getD_cons_succ, List.length_cons, List.length_nil, List.mem_cons, List.not_mem_nil, List.mem_append, List.nil_append, List.cons_append, List.append_nil, List.take_succ_cons, List.take_zero, List.drop_succ_cons, List.drop_zero, List.set_cons_zero, List.set_cons_succ, List.map_cons, List.map_nil, implies_true, forall_const, ne_eq, hle2, n1, rqS_next]
          refine hgo_sound 60 ?_
          simp -implicitDefEqProofs (maxSteps := 1000000) only [simpS, ↓condJ_true, ↓condJ_false, ↓reduceIte, Nat.reduceEqDiff, Nat.reduceLT, Nat.reduceLeDiff, reduceCtorEq, Nat.reduceAdd, Nat.reduceSub, bindG_none, addG_none, hgrpK_none, nestK_none, hgrpK_guarded, Option.map_none, beq_self_eq_true, bne_self_eq_false, Option.map_some, if_true, if_false, List.getD_cons_zero, List.getD_cons_succ, List.length_cons, List.length_nil, List.mem_cons, List.not_mem_nil, List.mem_append, List.nil_append, List.cons_append, List.append_nil, List.take_succ_cons, List.take_zero, List.drop_succ_cons, List.drop_zero, List.set_cons_zero, List.set_cons_succ, List.map_cons, List.map_nil, implies_true, forall_const, ne_eq, hle2, n1, n2, rqS_next, rqS_0, rqS_1, rqS_2, rqS_3, rqS_4, hb7, hb1, hb2, encTk_length, hsz, hsz2]
          refine round_next ?_ rfl (rqS_wf hwf ⟨c ++ [x], none⟩) hl hτ hle2 ((Ext.refl ρ).new _)
          refine St.ext' (fun q => ?_) rfl rfl
          simp only [rqS, St.obj_new, St.obj_put, St.next_new, St.next_put, Nat.add_assoc, Nat.reduceAdd, rqAt, rqErr, ← encTk_snoc, List.length_append, List.length_cons, List.length_nil]
          by_cases q1 : q = σ.next + 3
          · simp [q1]
          · by_cases q2 : q = σ.next + 4 <;> simp [q1, q2]
  · rw [hrun]
    cases hb : badAt W with
    | some f =>
      refine hx_ret ?_
      exact fpost_wk (σ0 := σ) (ds := [.slice .nil 0 [], .int .i64 (f : Int), .iface 32 (.int .i64 2)]) (Wk.tuple (WkL.cons Wk.nil (WkL.refl _))) (.inr rfl) (by rw [hnx]; exact Nat.le_refl _) hwf ((rqS_ext σ _).bump.sub hwf)
        (resD_cell rfl (rqS_0 ..) (resD_cell rfl (rqS_1 ..) (resD_cell rfl (rqS_2 ..) resD_nil))) ⟨by decide, by decide, by decide, trivial⟩ ⟨⟨trivial, trivial⟩, trivial, trivial, trivial⟩ ⟨rfl, rfl⟩
    | none =>
      refine hx_inBlock ?_
      refine hgo_sound 60 ?_
      simp -implicitDefEqProofs (maxSteps := 1000000) only [simpS, ↓condJ_true, ↓condJ_false, ↓reduceIte, Nat.reduceEqDiff, Nat.reduceLT, Nat.reduceLeDiff, reduceCtorEq, Nat.reduceAdd, Nat.reduceSub, bindG_none, addG_none, hgrpK_none, nestK_none, hgrpK_guarded, Option.map_none, beq_self_eq_true, bne_self_eq_false, Option.map_some, if_true, if_false, List.getD_cons_zero, List.getD_cons_succ, List.length_cons, List.length_nil, List.mem_cons, List.not_mem_nil, List.mem_append, List.nil_append, List.cons_append, List.append_nil, List.take_succ_cons, List.take_zero, List.drop_succ_cons, List.drop_zero, List.set_cons_zero, List.set_cons_succ, List.map_cons, List.map_nil, implies_true, forall_const, ne_eq, rqS_next, rqS_0, rqS_1, rqS_2, rqS_3, rqS_4]
      exact fpost_strip (σ0 := σ) (ds := [.slice (.tok (σ.next + 4)) 3 (encTk (realsL W)), .int .i64 0, .nili]) (Wk.refl _) (.inr rfl) (by rw [hnx]; exact Nat.le_refl _) hwf ((((rqS_ext σ _).put (Nat.le_refl _) _).put (Nat.le_succ _) _).put (by omega) _ |>.bump.sub hwf)
        (resD_cell rfl (by simp [St.obj_bump, St.obj_put]) (resD_cell rfl (by simp [St.obj_bump, St.obj_put]) (resD_cell rfl (by simp [St.obj_bump, St.obj_put]) resD_nil))) ⟨by decide, by decide, by decide, trivial⟩ ⟨⟨trivial, encTk_lt _ _⟩, trivial, trivial, trivial⟩ ⟨rfl, rfl⟩

end Go.Hl
