/-
  Layer 1: a Table's own words.
-/
import Derived.Test.YtldfojmjjidadaaTxC
set_option linter.unusedSectionVars false
set_option linter.unusedVariables false
set_option linter.unusedSimpArgs false
set_option maxRecDepth 100000
namespace Go.Hl
open Go Go.Proofs Go.RowKit

def encB (l : List Nat) : List (List D) := l.map fun (n : Nat) => [.int .i64 (n : Int)]
theorem encB_lt (n : Nat) : ∀ l : List Nat, ltX n (encB l)
  | [] => trivial
  | s :: l => ⟨⟨trivial, trivial⟩, encB_lt n l⟩
theorem encB_length (l : List Nat) : (encB l).length = l.length := by simp [encB]
theorem encB_get (l : List Nat) (j : Nat) (h : j < l.length) : (encB l).getD j [] = [.int .i64 (l[j] : Int)] := by simp [encB, List.getD, h]
theorem encB_append (l m : List Nat) : encB l ++ encB m = encB (l ++ m) := by simp [encB]

/-- A Table's cells: done, the lock, how often it was made, where lines begin. -/
def tabO (s : ByteArray) (k : Nat) (dn lk md : Int) (xs : List Nat) : Ob :=
  .bx none [.str s, .int .u32 dn, .int .i32 lk, .int .u32 0, .int .i64 md, .slice (.tok k) 1 (encB xs)]
theorem tabO_eq (s : ByteArray) (k : Nat) (dn lk md : Int) (xs : List Nat) : tabO s k dn lk md xs = .bx none [.str s, .int .u32 dn, .int .i32 lk, .int .u32 0, .int .i64 md, .slice (.tok k) 1 (encB xs)] := by unfold tabO; rfl

theorem boolLoad_calls {id k : Nat} {s : ByteArray} {dn lk md : Int} {xs : List Nat} (σ : St) (ho : σ.obj id = some (tabO s k dn lk md xs)) : HCalls Try.prog 33 [.ptr id 1] σ (fun d σ' => d = .bool (dn != 0) ∧ σ' = σ) := by
  refine hcalls_body (fn := Try.f33) rfl c33 (by simp [h33]) (by simp [h33, Try.f33]) ?_
  intro M hP hr hnt hnx hwf hlt
  simp only [h33, argEnv]
  rw [tabO_eq] at ho
  refine hgo_sound 60 ?_
  simp -implicitDefEqProofs (maxSteps := 1000000) only [simpS, ↓condJ_true, ↓condJ_false, ↓reduceIte, Nat.reduceEqDiff, Nat.reduceLT, Nat.reduceLeDiff, reduceCtorEq, Nat.reduceAdd, Nat.reduceSub, bindG_none, addG_none, hgrpK_none, nestK_none, hgrpK_guarded, Option.map_none, beq_self_eq_true, bne_self_eq_false, Option.map_some, if_true, if_false, List.getD_cons_zero, List.getD_cons_succ, List.length_cons, List.length_nil, List.mem_cons, List.not_mem_nil, List.mem_append, List.nil_append, List.cons_append, List.append_nil, List.take_succ_cons, List.take_zero, List.drop_succ_cons, List.drop_zero, List.set_cons_zero, List.set_cons_succ, List.map_cons, List.map_nil, implies_true, forall_const, ne_eq, ho]
  refine hx_call (f := .fn 41) rfl (by rw [hP]; exact hcallD_func (load_calls Try.func41 (by kernel_rfl) (by kernel_rfl) (by kernel_rfl) .u32 (by kernel_rfl) ho rfl)) ?_
  rintro _ σ2 ⟨rfl, h⟩
  subst σ2
  refine hgo_sound 60 ?_
  simp -implicitDefEqProofs (maxSteps := 1000000) only [simpS, ↓condJ_true, ↓condJ_false, ↓reduceIte, Nat.reduceEqDiff, Nat.reduceLT, Nat.reduceLeDiff, reduceCtorEq, Nat.reduceAdd, Nat.reduceSub, bindG_none, addG_none, hgrpK_none, nestK_none, hgrpK_guarded, Option.map_none, beq_self_eq_true, bne_self_eq_false, Option.map_some, if_true, if_false, List.getD_cons_zero, List.getD_cons_succ, List.length_cons, List.length_nil, List.mem_cons, List.not_mem_nil, List.mem_append, List.nil_append, List.cons_append, List.append_nil, List.take_succ_cons, List.take_zero, List.drop_succ_cons, List.drop_zero, List.set_cons_zero, List.set_cons_succ, List.map_cons, List.map_nil, implies_true, forall_const, ne_eq]
  exact fpost_pure (σ0 := σ) (.inr rfl) (by rw [hnx]; exact Nat.le_refl _) hwf (Sub.refl σ) rfl trivial trivial ⟨rfl, rfl⟩

theorem i64Load_calls {id k : Nat} {s : ByteArray} {dn lk md : Int} {xs : List Nat} (σ : St) (ho : σ.obj id = some (tabO s k dn lk md xs)) : HCalls Try.prog 18 [.ptr id 4] σ (fun d σ' => d = .int .i64 md ∧ σ' = σ) := by
  refine hcalls_body (fn := Try.f18) rfl c18 (by simp [h18]) (by simp [h18, Try.f18]) ?_
  intro M hP hr hnt hnx hwf hlt
  simp only [h18, argEnv]
  rw [tabO_eq] at ho
  refine hgo_sound 60 ?_
  simp -implicitDefEqProofs (maxSteps := 1000000) only [simpS, ↓condJ_true, ↓condJ_false, ↓reduceIte, Nat.reduceEqDiff, Nat.reduceLT, Nat.reduceLeDiff, reduceCtorEq, Nat.reduceAdd, Nat.reduceSub, bindG_none, addG_none, hgrpK_none, nestK_none, hgrpK_guarded, Option.map_none, beq_self_eq_true, bne_self_eq_false, Option.map_some, if_true, if_false, List.getD_cons_zero, List.getD_cons_succ, List.length_cons, List.length_nil, List.mem_cons, List.not_mem_nil, List.mem_append, List.nil_append, List.cons_append, List.append_nil, List.take_succ_cons, List.take_zero, List.drop_succ_cons, List.drop_zero, List.set_cons_zero, List.set_cons_succ, List.map_cons, List.map_nil, implies_true, forall_const, ne_eq, ho]
  refine hx_call (f := .fn 25) rfl (by rw [hP]; exact hcallD_func (load_calls Try.func25 (by kernel_rfl) (by kernel_rfl) (by kernel_rfl) .i64 (by kernel_rfl) ho rfl)) ?_
  rintro _ σ2 ⟨rfl, h⟩
  subst σ2
  refine hgo_sound 60 ?_
  simp -implicitDefEqProofs (maxSteps := 1000000) only [simpS, ↓condJ_true, ↓condJ_false, ↓reduceIte, Nat.reduceEqDiff, Nat.reduceLT, Nat.reduceLeDiff, reduceCtorEq, Nat.reduceAdd, Nat.reduceSub, bindG_none, addG_none, hgrpK_none, nestK_none, hgrpK_guarded, Option.map_none, beq_self_eq_true, bne_self_eq_false, Option.map_some, if_true, if_false, List.getD_cons_zero, List.getD_cons_succ, List.length_cons, List.length_nil, List.mem_cons, List.not_mem_nil, List.mem_append, List.nil_append, List.cons_append, List.append_nil, List.take_succ_cons, List.take_zero, List.drop_succ_cons, List.drop_zero, List.set_cons_zero, List.set_cons_succ, List.map_cons, List.map_nil, implies_true, forall_const, ne_eq]
  exact fpost_pure (σ0 := σ) (.inr rfl) (by rw [hnx]; exact Nat.le_refl _) hwf (Sub.refl σ) rfl trivial trivial ⟨rfl, rfl⟩

theorem i64Add_calls {id k : Nat} {s : ByteArray} {dn lk : Int} {xs : List Nat} (σ : St) (ho : σ.obj id = some (tabO s k dn lk 0 xs)) : HCalls Try.prog 29 [.ptr id 4, .int .i64 1] σ (fun d σ' => d = .int .i64 1 ∧ σ' = σ.put id (tabO s k dn lk 1 xs)) := by
  refine hcalls_body (fn := Try.f29) rfl c29 (by simp [h29]) (by simp [h29, Try.f29]) ?_
  intro M hP hr hnt hnx hwf hlt
  simp only [h29, argEnv]
  rw [tabO_eq] at ho
  refine hgo_sound 60 ?_
  simp -implicitDefEqProofs (maxSteps := 1000000) only [simpS, ↓condJ_true, ↓condJ_false, ↓reduceIte, Nat.reduceEqDiff, Nat.reduceLT, Nat.reduceLeDiff, reduceCtorEq, Nat.reduceAdd, Nat.reduceSub, bindG_none, addG_none, hgrpK_none, nestK_none, hgrpK_guarded, Option.map_none, beq_self_eq_true, bne_self_eq_false, Option.map_some, if_true, if_false, List.getD_cons_zero, List.getD_cons_succ, List.length_cons, List.length_nil, List.mem_cons, List.not_mem_nil, List.mem_append, List.nil_append, List.cons_append, List.append_nil, List.take_succ_cons, List.take_zero, List.drop_succ_cons, List.drop_zero, List.set_cons_zero, List.set_cons_succ, List.map_cons, List.map_nil, implies_true, forall_const, ne_eq, ho]
  refine hx_call (f := .fn 35) rfl (by rw [hP]; exact hcallD_func (add_calls Try.func35 (by kernel_rfl) (by kernel_rfl) (by kernel_rfl) .i64 (by kernel_rfl) (s := 1) (fun w => by simp [go_sem]; rfl) ho rfl)) ?_
  rintro _ σ2 ⟨rfl, rfl⟩
  refine hgo_sound 60 ?_
  simp -implicitDefEqProofs (maxSteps := 1000000) only [simpS, ↓condJ_true, ↓condJ_false, ↓reduceIte, Nat.reduceEqDiff, Nat.reduceLT, Nat.reduceLeDiff, reduceCtorEq, Nat.reduceAdd, Nat.reduceSub, bindG_none, addG_none, hgrpK_none, nestK_none, hgrpK_guarded, Option.map_none, beq_self_eq_true, bne_self_eq_false, Option.map_some, if_true, if_false, List.getD_cons_zero, List.getD_cons_succ, List.length_cons, List.length_nil, List.mem_cons, List.not_mem_nil, List.mem_append, List.nil_append, List.cons_append, List.append_nil, List.take_succ_cons, List.take_zero, List.drop_succ_cons, List.drop_zero, List.set_cons_zero, List.set_cons_succ, List.map_cons, List.map_nil, implies_true, forall_const, ne_eq]
  exact fpost_keep (.inr rfl) rfl trivial (fun _ => trivial) fun hw => ⟨rfl, by rw [tabO_eq]⟩

/-! ### The look through the text -/

def bgStep (c : List Nat) (x : Nat × ByteArray) : List Nat × Option HC := (c ++ [x.1], none)
theorem bgStep_run (s : ByteArray) : ∀ (l : List Nat) (c : List Nat), rngRun bgStep c (itemsF s l) = (c ++ l, none)
  | [], c => by simp [rngRun, items_nil]
  | x :: xs, c => by
    rw [items_cons]
    simp only [rngRun, bgStep]
    rw [bgStep_run s xs]
    simp
theorem bgStep_oks (s : ByteArray) : ∀ (l : List Nat) (c : List Nat), c.length + l.length ≤ 1099511627777 → rngOks (fun (c : List Nat) (x : Nat × ByteArray) => c.length + 1 ≤ 1099511627777) bgStep c (itemsF s l)
  | [], c, _ => trivial
  | x :: xs, c, h => by
    simp only [List.length_cons] at h
    exact ⟨by show _ ≤ _; omega, fun _ => bgStep_oks s xs _ (by simp only [bgStep, List.length_append, List.length_cons, List.length_nil]; omega)⟩
theorem begT_length : ∀ (l : List UInt8) (a : Nat), (begT a l).length ≤ l.length
  | [], a => Nat.le_refl _
  | b :: r, a => by
    have := begT_length r (a + 1)
    simp only [begT]
    split <;> simp only [List.length_cons] <;> omega

abbrev tkO (xs : List Nat) : Ob := .tok 3 xs.length
abbrev bgS (σ : St) (id k : Nat) (s : ByteArray) (c : List Nat) : St := (σ.put k (tkO c)).put id (tabO s k 0 1 1 c)

structure BgH (σ : St) (id k j : Nat) (s : ByteArray) : Prop where
  ob : σ.obj id = some (tabO s k 0 1 0 [])
  tk : σ.obj k = some (tkO [])
  par : σ.obj j = some (.bx none [.ptr id 0])
  ne1 : id ≠ k
  ne2 : id ≠ j
  ne3 : k ≠ j

theorem begins1_calls {id k j : Nat} {s : ByteArray} (hs : s.size ≤ 1099511627776) (σ : St) (H : BgH σ id k j s) : HCalls Try.prog 28 [.ptr j 0] σ (fun d σ' => d = .tuple [] ∧ σ' = bgS σ id k s (begs s)) := by
  refine hcalls_body (fn := Try.f28) rfl c28 (by simp [h28]) (by simp [h28, Try.f28]) ?_
  intro M hP hr hnt hnx hwf hlt
  simp only [h28, argEnv]
  obtain ⟨ho, ht, hj, e1, e2, e3⟩ := H
  have hid := (hwf.obj _ _ ho).1
  have hkd := (hwf.obj _ _ ht).1
  have hjd := (hwf.obj _ _ hj).1
  have e1' := Ne.symm e1
  have e2' := Ne.symm e2
  have e3' := Ne.symm e3
  refine hgo_sound 60 ?_
  simp -implicitDefEqProofs (maxSteps := 1000000) only [simpS, ↓condJ_true, ↓condJ_false, ↓reduceIte, Nat.reduceEqDiff, Nat.reduceLT, Nat.reduceLeDiff, reduceCtorEq, Nat.reduceAdd, Nat.reduceSub, bindG_none, addG_none, hgrpK_none, nestK_none, hgrpK_guarded, Option.map_none, beq_self_eq_true, bne_self_eq_false, Option.map_some, if_true, if_false, List.getD_cons_zero, List.getD_cons_succ, List.length_cons, List.length_nil, List.mem_cons, List.not_mem_nil, List.mem_append, List.nil_append, List.cons_append, List.append_nil, List.take_succ_cons, List.take_zero, List.drop_succ_cons, List.drop_zero, List.set_cons_zero, List.set_cons_succ, List.map_cons, List.map_nil, implies_true, forall_const, ne_eq, hj, ho, tabO_eq]
  refine hx_call (f := .fn 29) rfl (by rw [hP]; exact hcallD_func (i64Add_calls σ (ho.trans rfl))) ?_
  rintro _ σ2 ⟨rfl, rfl⟩
  refine hgo_sound 60 ?_
  simp -implicitDefEqProofs (maxSteps := 1000000) only [simpS, ↓condJ_true, ↓condJ_false, ↓reduceIte, Nat.reduceEqDiff, Nat.reduceLT, Nat.reduceLeDiff, reduceCtorEq, Nat.reduceAdd, Nat.reduceSub, bindG_none, addG_none, hgrpK_none, nestK_none, hgrpK_guarded, Option.map_none, beq_self_eq_true, bne_self_eq_false, Option.map_some, if_true, if_false, List.getD_cons_zero, List.getD_cons_succ, List.length_cons, List.length_nil, List.mem_cons, List.not_mem_nil, List.mem_append, List.nil_append, List.cons_append, List.append_nil, List.take_succ_cons, List.take_zero, List.drop_succ_cons, List.drop_zero, List.set_cons_zero, List.set_cons_succ, List.map_cons, List.map_nil, implies_true, forall_const, ne_eq, hj, ho, e1, e2, e3, e1', e2', e3', tabO_eq]
  refine hx_call (f := .fn 10) rfl (by rw [hP]; exact hcallD_func (lines_calls s _)) ?_
  rintro _ σ2 ⟨rfl, h⟩
  subst σ2
  refine hgo_sound 6 ?_
  simp -implicitDefEqProofs (maxSteps := 1000000) only [simpS, ↓condJ_true, ↓condJ_false, ↓reduceIte, Nat.reduceEqDiff, Nat.reduceLT, Nat.reduceLeDiff, reduceCtorEq, Nat.reduceAdd, Nat.reduceSub, bindG_none, addG_none, hgrpK_none, nestK_none, hgrpK_guarded, Option.map_none, beq_self_eq_true, bne_self_eq_false, Option.map_some, if_true, if_false, List.getD_cons_zero, List.getD_cons_succ, List.length_cons, List.length_nil, List.mem_cons, List.not_mem_nil, List.mem_append, List.nil_append, List.cons_append, List.append_nil, List.take_succ_cons, List.take_zero, List.drop_succ_cons, List.drop_zero, List.set_cons_zero, List.set_cons_succ, List.map_cons, List.map_nil, implies_true, forall_const, ne_eq]
  refine hx_know_code fun hw hl hn1 => ?_
  have hS : ∀ c : List Nat, (bgS σ id k s c).wf := fun c => (hwf.put (o := tkO c) hkd trivial).put hid ⟨trivial, trivial, trivial, trivial, trivial, ⟨hkd, encB_lt _ _⟩, trivial⟩
  refine hx_range_fold (fn := 19) (caps := [.eptr [.str s] 0]) (xs := itemsF s (begs s)) (enc := encL) (fun c : List Nat => bgS σ id k s c)
    (fun (c : List Nat) (x : Nat × ByteArray) => c.length + 1 ≤ 1099511627777) bgStep [] rfl (by rw [hP]; rfl) (fun _ _ h => by rw [hr] at h; cases h) (by rw [hP]; exact lines_iter s hs) ?_
    (fun c => rfl) (fun c c' => rfl) hS hl (bgStep_oks s _ _ ?_) (fun _ => rfl) (by rw [hnt]; decide) ?_ ?_
  · show (σ.put k (tkO [])).put id _ = _
    rw [put_self ht, tabO_eq]
  · have := begT_length s.data.toList 0
    have hlen : s.data.toList.length = s.size := by simp
    simp only [begs, List.length_cons, List.length_nil]
    omega
  · rintro c ⟨a, ln⟩ τ hk hle hτ hgl M' hP' hnt' hr' hnx' hwf' hlt'
    simp only [St.next_put] at hle hl hk ⊢
    have n1 : ¬ τ.next < σ.next + 1 := by omega
    have b1 : id < σ.next + 1 := by omega
    have b2 : k < σ.next + 1 := by omega
    have b3 : j < σ.next + 1 := by omega
    have m1 : ¬ id = σ.next := by omega
    have m2 : ¬ k = σ.next := by omega
    have m3 : ¬ j = σ.next := by omega
    simp only [encL, putsE]
    have hnt2 : M'.nt = 23 := hnt'.trans hnt
    have hsz : (c.length + 1) * 8 ≤ 140737488355328 := by omega
    have hsz2 : c.length + 1 ≤ 9223372036854775807 := by omega
    have hl1 : ([[D.int IntKind.i64 (a : Int)]] : List (List D)).length = 1 := rfl
    refine hgo_sound 20 ?_
    simp -implicitDefEqProofs (maxSteps := 1000000) only [simpS, ↓condJ_true, ↓condJ_false, ↓reduceIte, Nat.reduceEqDiff, Nat.reduceLT, Nat.reduceLeDiff, reduceCtorEq, Nat.reduceAdd, Nat.reduceSub, bindG_none, addG_none, hgrpK_none, nestK_none, hgrpK_guarded, Option.map_none, beq_self_eq_true, bne_self_eq_false, Option.map_some, if_true, if_false, List.getD_cons_zero, List.getD_cons_succ, List.length_cons, List.length_nil, List.mem_cons, List.not_mem_nil, List.mem_append, List.nil_append, List.cons_append, List.append_nil, List.take_succ_cons, List.take_zero, List.drop_succ_cons, List.drop_zero, List.set_cons_zero, List.set_cons_succ, List.map_cons, List.map_nil, implies_true, forall_const, ne_eq, hle, n1]
    refine hgo_sound 2 ?_
    simp -implicitDefEqProofs (maxSteps := 1000000) only [simpS, ↓condJ_true, ↓condJ_false, ↓reduceIte, Nat.reduceEqDiff, Nat.reduceLT, Nat.reduceLeDiff, reduceCtorEq, Nat.reduceAdd, Nat.reduceSub, bindG_none, addG_none, hgrpK_none, nestK_none, hgrpK_guarded, Option.map_none, beq_self_eq_true, bne_self_eq_false, Option.map_some, if_true, if_false, List.getD_cons_zero, List.getD_cons_succ, List.length_cons, List.length_nil, List.mem_cons, List.not_mem_nil, List.mem_append, List.nil_append, List.cons_append, List.append_nil, List.take_succ_cons, List.take_zero, List.drop_succ_cons, List.drop_zero, List.set_cons_zero, List.set_cons_succ, List.map_cons, List.map_nil, implies_true, forall_const, ne_eq, hle, n1]
    refine hx_drawgo 5 ?_
    simp -implicitDefEqProofs (maxSteps := 3000000) only [drawS, List.map_cons, List.map_nil, List.getElem?_cons_zero, List.getElem?_cons_succ, List.getElem?_nil, simpS, ↓condJ_true, ↓condJ_false, ↓reduceIte, Nat.reduceEqDiff, Nat.reduceLT, Nat.reduceLeDiff, reduceCtorEq, Nat.reduceAdd, Nat.reduceSub, bindG_none, addG_none, hgrpK_none, nestK_none, hgrpK_guarded, Option.map_none, beq_self_eq_true, bne_self_eq_false, Option.map_some, if_true, if_false, List.getD_cons_zero, List.getD_cons_succ, List.length_cons, List.length_nil, List.mem_cons, List.not_mem_nil, List.mem_append, List.nil_append, List.cons_append, List.append_nil, List.take_succ_cons, List.take_zero, List.drop_succ_cons, List.drop_zero, List.set_cons_zero, List.set_cons_succ, List.map_cons, List.map_nil, implies_true, forall_const, ne_eq, hnt2, hj, ho, ht, e1, e2, e3, e1', e2', e3', b1, b2, b3, m1, m2, m3, n1, hle, tabO_eq, encB_length, hsz, hsz2, hl1]
    refine hgo_sound 20 ?_
    simp -implicitDefEqProofs (maxSteps := 1000000) only [simpS, ↓condJ_true, ↓condJ_false, ↓reduceIte, Nat.reduceEqDiff, Nat.reduceLT, Nat.reduceLeDiff, reduceCtorEq, Nat.reduceAdd, Nat.reduceSub, bindG_none, addG_none, hgrpK_none, nestK_none, hgrpK_guarded, Option.map_none, beq_self_eq_true, bne_self_eq_false, Option.map_some, if_true, if_false, List.getD_cons_zero, List.getD_cons_succ, List.length_cons, List.length_nil, List.mem_cons, List.not_mem_nil, List.mem_append, List.nil_append, List.cons_append, List.append_nil, List.take_succ_cons, List.take_zero, List.drop_succ_cons, List.drop_zero, List.set_cons_zero, List.set_cons_succ, List.map_cons, List.map_nil, implies_true, forall_const, ne_eq, hle, n1, b1, b2, b3, m1, m2, m3]
    refine round_next ?_ rfl (hS (c ++ [a])) hl hτ hle (Ext.refl τ)
    refine St.ext' (fun q => ?_) rfl rfl
    have hz : encB c ++ [[D.int .i64 (a : Int)]] = encB (c ++ [a]) := encB_append c [a]
    rw [hz]
    simp only [bgS, tkO, St.obj_put, tabO_eq, List.length_append, List.length_cons, List.length_nil]
    by_cases q1 : q = id
    · simp [q1, bgStep]
    · by_cases q2 : q = k <;> simp [q1, q2, bgStep, e1']
  · rw [bgStep_run]
    refine hx_inBlock ?_
    refine hgo_sound 20 ?_
    simp -implicitDefEqProofs (maxSteps := 1000000) only [simpS, ↓condJ_true, ↓condJ_false, ↓reduceIte, Nat.reduceEqDiff, Nat.reduceLT, Nat.reduceLeDiff, reduceCtorEq, Nat.reduceAdd, Nat.reduceSub, bindG_none, addG_none, hgrpK_none, nestK_none, hgrpK_guarded, Option.map_none, beq_self_eq_true, bne_self_eq_false, Option.map_some, if_true, if_false, List.getD_cons_zero, List.getD_cons_succ, List.length_cons, List.length_nil, List.mem_cons, List.not_mem_nil, List.mem_append, List.nil_append, List.cons_append, List.append_nil, List.take_succ_cons, List.take_zero, List.drop_succ_cons, List.drop_zero, List.set_cons_zero, List.set_cons_succ, List.map_cons, List.map_nil, implies_true, forall_const, ne_eq]
    exact fpost_pure (σ0 := bgS σ id k s (begs s)) (.inl rfl) (by rw [hnx]; exact Nat.le_refl _) (hS _) ((Ext.refl _).bump.sub (hS _)) rfl trivial trivial ⟨rfl, rfl⟩

/-! ### sync.Once's Do, and the beginnings -/

structure TbH (σ : St) (id k : Nat) (s : ByteArray) : Prop where
  ob : σ.obj id = some (tabO s k 0 0 0 [])
  tk : σ.obj k = some (tkO [])
  ne : id ≠ k

abbrev tbS (σ : St) (id k : Nat) (s : ByteArray) : St := (σ.put k (tkO (begs s))).put id (tabO s k 1 0 1 (begs s))

theorem slow0_calls {id k j : Nat} {s : ByteArray} (hs : s.size ≤ 1099511627776) (σ : St) (H : TbH σ id k s) (hp : σ.obj j = some (.bx none [.ptr id 0])) (e2 : id ≠ j) (e3 : k ≠ j) :
    HCalls Try.prog 34 [.ptr id 1, .func 28 [.ptr j 0]] σ (fun d σ' => d = .tuple [] ∧ σ' = tbS σ id k s) := by
  obtain ⟨ho, ht, e1⟩ := H
  refine slow_calls (Q := fun σ' => σ' = tbS σ id k s) (by kernel_rfl) (ho.trans (congrArg some (tabO_eq s k 0 0 0 []))) rfl rfl ?_
  have hset : (Ob.bx none (([.str s, .int .u32 0, .int .i32 0, .int .u32 0, .int .i64 0, .slice (.tok k) 1 (encB [])] : List D).set (1 + 1) (.int .i32 1))) = tabO s k 0 1 0 [] := rfl
  rw [hset]
  refine (begins1_calls hs (σ.put id (tabO s k 0 1 0 [])) ⟨by simp [St.obj_put], by simp [St.obj_put, Ne.symm e1, ht], by simp [St.obj_put, Ne.symm e2, hp], e1, e2, e3⟩).mono ?_
  rintro d σ' ⟨rfl, rfl⟩
  refine ⟨rfl, _, by simp only [bgS, St.obj_put, if_true]; rw [tabO_eq], rfl, rfl, ?_⟩
  refine St.ext' (fun q => ?_) rfl rfl
  simp only [bgS, tbS, St.obj_put]
  by_cases q1 : q = id
  · simp only [q1, if_true]
    rfl
  · simp only [q1, if_false]

theorem do0_calls {id k j : Nat} {s : ByteArray} (hs : s.size ≤ 1099511627776) (σ : St) (H : TbH σ id k s) (hp : σ.obj j = some (.bx none [.ptr id 0])) (e2 : id ≠ j) (e3 : k ≠ j) : HCalls Try.prog 27 [.ptr id 1, .func 28 [.ptr j 0]] σ (fun d σ' => σ' = tbS σ id k s) := by
  refine hcalls_body (fn := Try.f27) rfl c27 (by simp [h27]) (by simp [h27, Try.f27]) ?_
  intro M hP hr hnt hnx hwf hlt
  simp only [h27, argEnv]
  have ho := H.ob
  refine hgo_sound 60 ?_
  simp -implicitDefEqProofs (maxSteps := 1000000) only [simpS, ↓condJ_true, ↓condJ_false, ↓reduceIte, Nat.reduceEqDiff, Nat.reduceLT, Nat.reduceLeDiff, reduceCtorEq, Nat.reduceAdd, Nat.reduceSub, bindG_none, addG_none, hgrpK_none, nestK_none, hgrpK_guarded, Option.map_none, beq_self_eq_true, bne_self_eq_false, Option.map_some, if_true, if_false, List.getD_cons_zero, List.getD_cons_succ, List.length_cons, List.length_nil, List.mem_cons, List.not_mem_nil, List.mem_append, List.nil_append, List.cons_append, List.append_nil, List.take_succ_cons, List.take_zero, List.drop_succ_cons, List.drop_zero, List.set_cons_zero, List.set_cons_succ, List.map_cons, List.map_nil, implies_true, forall_const, ne_eq, ho, tabO_eq]
  refine hx_call (f := .fn 33) rfl (by rw [hP]; exact hcallD_func (boolLoad_calls σ ho)) ?_
  rintro _ σ2 ⟨rfl, h⟩
  subst σ2
  have h0 : ((0 : Int) != 0) = false := rfl
  rw [h0]
  refine hgo_sound 60 ?_
  simp -implicitDefEqProofs (maxSteps := 1000000) only [simpS, ↓condJ_true, ↓condJ_false, ↓reduceIte, Nat.reduceEqDiff, Nat.reduceLT, Nat.reduceLeDiff, reduceCtorEq, Nat.reduceAdd, Nat.reduceSub, bindG_none, addG_none, hgrpK_none, nestK_none, hgrpK_guarded, Option.map_none, beq_self_eq_true, bne_self_eq_false, Option.map_some, if_true, if_false, List.getD_cons_zero, List.getD_cons_succ, List.length_cons, List.length_nil, List.mem_cons, List.not_mem_nil, List.mem_append, List.nil_append, List.cons_append, List.append_nil, List.take_succ_cons, List.take_zero, List.drop_succ_cons, List.drop_zero, List.set_cons_zero, List.set_cons_succ, List.map_cons, List.map_nil, implies_true, forall_const, ne_eq]
  refine hx_call (f := .fn 34) rfl (by rw [hP]; exact hcallD_func (slow0_calls hs σ H hp e2 e3)) ?_
  rintro _ σ2 ⟨rfl, rfl⟩
  refine hgo_sound 60 ?_
  simp -implicitDefEqProofs (maxSteps := 1000000) only [simpS, ↓condJ_true, ↓condJ_false, ↓reduceIte, Nat.reduceEqDiff, Nat.reduceLT, Nat.reduceLeDiff, reduceCtorEq, Nat.reduceAdd, Nat.reduceSub, bindG_none, addG_none, hgrpK_none, nestK_none, hgrpK_guarded, Option.map_none, beq_self_eq_true, bne_self_eq_false, Option.map_some, if_true, if_false, List.getD_cons_zero, List.getD_cons_succ, List.length_cons, List.length_nil, List.mem_cons, List.not_mem_nil, List.mem_append, List.nil_append, List.cons_append, List.append_nil, List.take_succ_cons, List.take_zero, List.drop_succ_cons, List.drop_zero, List.set_cons_zero, List.set_cons_succ, List.map_cons, List.map_nil, implies_true, forall_const, ne_eq]
  exact fpost_keep (.inl rfl) rfl trivial (fun _ => trivial) fun hw => rfl

theorem do1_calls {id k : Nat} {s : ByteArray} {xs : List Nat} {f : D} (σ : St) (ho : σ.obj id = some (tabO s k 1 0 1 xs)) : HCalls Try.prog 27 [.ptr id 1, f] σ (fun d σ' => σ' = σ) := by
  refine hcalls_body (fn := Try.f27) rfl c27 (by simp [h27]) (by simp [h27, Try.f27]) ?_
  intro M hP hr hnt hnx hwf hlt
  simp only [h27, argEnv]
  refine hgo_sound 60 ?_
  simp -implicitDefEqProofs (maxSteps := 1000000) only [simpS, ↓condJ_true, ↓condJ_false, ↓reduceIte, Nat.reduceEqDiff, Nat.reduceLT, Nat.reduceLeDiff, reduceCtorEq, Nat.reduceAdd, Nat.reduceSub, bindG_none, addG_none, hgrpK_none, nestK_none, hgrpK_guarded, Option.map_none, beq_self_eq_true, bne_self_eq_false, Option.map_some, if_true, if_false, List.getD_cons_zero, List.getD_cons_succ, List.length_cons, List.length_nil, List.mem_cons, List.not_mem_nil, List.mem_append, List.nil_append, List.cons_append, List.append_nil, List.take_succ_cons, List.take_zero, List.drop_succ_cons, List.drop_zero, List.set_cons_zero, List.set_cons_succ, List.map_cons, List.map_nil, implies_true, forall_const, ne_eq, ho, tabO_eq]
  refine hx_call (f := .fn 33) rfl (by rw [hP]; exact hcallD_func (boolLoad_calls σ ho)) ?_
  rintro _ σ2 ⟨rfl, h⟩
  subst σ2
  have h0 : ((1 : Int) != 0) = true := rfl
  rw [h0]
  refine hgo_sound 60 ?_
  simp -implicitDefEqProofs (maxSteps := 1000000) only [simpS, ↓condJ_true, ↓condJ_false, ↓reduceIte, Nat.reduceEqDiff, Nat.reduceLT, Nat.reduceLeDiff, reduceCtorEq, Nat.reduceAdd, Nat.reduceSub, bindG_none, addG_none, hgrpK_none, nestK_none, hgrpK_guarded, Option.map_none, beq_self_eq_true, bne_self_eq_false, Option.map_some, if_true, if_false, List.getD_cons_zero, List.getD_cons_succ, List.length_cons, List.length_nil, List.mem_cons, List.not_mem_nil, List.mem_append, List.nil_append, List.cons_append, List.append_nil, List.take_succ_cons, List.take_zero, List.drop_succ_cons, List.drop_zero, List.set_cons_zero, List.set_cons_succ, List.map_cons, List.map_nil, implies_true, forall_const, ne_eq]
  exact fpost_keep (.inl rfl) rfl trivial (fun _ => trivial) fun hw => rfl

theorem tbS_new {σ : St} {id k : Nat} {s : ByteArray} {o : Ob} (h1 : id < σ.next) (h2 : k < σ.next) : tbS (σ.new o) id k s = (tbS σ id k s).new o := by
  have m1 : ¬ id = σ.next := by omega
  have m2 : ¬ k = σ.next := by omega
  simp only [tbS, St.put_new, St.next_put, m1, m2, if_false]

theorem tbS_wf {σ : St} (hwf : σ.wf) {id k : Nat} (s : ByteArray) (h1 : id < σ.next) (h2 : k < σ.next) : (tbS σ id k s).wf :=
  (hwf.put (o := tkO (begs s)) h2 trivial).put h1 ⟨trivial, trivial, trivial, trivial, trivial, ⟨h2, encB_lt _ _⟩, trivial⟩

theorem begins0_calls {id k : Nat} {s : ByteArray} (hs : s.size ≤ 1099511627776) (σ : St) (H : TbH σ id k s) : HCalls Try.prog 21 [.ptr id 0] σ (fun d σ' => d = .slice .no 1 (encB (begs s)) ∧ σ' = tbS σ id k s) := by
  refine hcalls_body (fn := Try.f21) rfl c21 (by simp [h21]) (by simp [h21, Try.f21]) ?_
  intro M hP hr hnt hnx hwf hlt
  simp only [h21, argEnv]
  obtain ⟨ho, ht, e1⟩ := H
  have hid := (hwf.obj _ _ ho).1
  have hkd := (hwf.obj _ _ ht).1
  have m1 : ¬ id = σ.next := by omega
  have m2 : ¬ k = σ.next := by omega
  have m1' : ¬ σ.next = id := by omega
  have m2' : ¬ σ.next = k := by omega
  refine hgo_sound 60 ?_
  simp -implicitDefEqProofs (maxSteps := 1000000) only [simpS, ↓condJ_true, ↓condJ_false, ↓reduceIte, Nat.reduceEqDiff, Nat.reduceLT, Nat.reduceLeDiff, reduceCtorEq, Nat.reduceAdd, Nat.reduceSub, bindG_none, addG_none, hgrpK_none, nestK_none, hgrpK_guarded, Option.map_none, beq_self_eq_true, bne_self_eq_false, Option.map_some, if_true, if_false, List.getD_cons_zero, List.getD_cons_succ, List.length_cons, List.length_nil, List.mem_cons, List.not_mem_nil, List.mem_append, List.nil_append, List.cons_append, List.append_nil, List.take_succ_cons, List.take_zero, List.drop_succ_cons, List.drop_zero, List.set_cons_zero, List.set_cons_succ, List.map_cons, List.map_nil, implies_true, forall_const, ne_eq, ho, m1, m2]
  refine hx_call (f := .fn 27) rfl (by rw [hP]; exact hcallD_func (do0_calls hs (σ.new (.bx none [.ptr id 0])) ⟨by simp only [St.obj_new, m1, if_false, ho], by simp only [St.obj_new, m2, if_false, ht], e1⟩ (by simp [St.obj_new]) m1 m2)) ?_
  rintro _ σ2 rfl
  rw [tbS_new hid hkd]
  refine hgo_sound 60 ?_
  simp -implicitDefEqProofs (maxSteps := 1000000) only [simpS, ↓condJ_true, ↓condJ_false, ↓reduceIte, Nat.reduceEqDiff, Nat.reduceLT, Nat.reduceLeDiff, reduceCtorEq, Nat.reduceAdd, Nat.reduceSub, bindG_none, addG_none, hgrpK_none, nestK_none, hgrpK_guarded, Option.map_none, beq_self_eq_true, bne_self_eq_false, Option.map_some, if_true, if_false, List.getD_cons_zero, List.getD_cons_succ, List.length_cons, List.length_nil, List.mem_cons, List.not_mem_nil, List.mem_append, List.nil_append, List.cons_append, List.append_nil, List.take_succ_cons, List.take_zero, List.drop_succ_cons, List.drop_zero, List.set_cons_zero, List.set_cons_succ, List.map_cons, List.map_nil, implies_true, forall_const, ne_eq, m1, m2, m1', m2', tabO_eq]
  exact fpost_strip (σ0 := tbS σ id k s) (ds := [.slice (.tok k) 1 (encB (begs s))]) (Wk.refl _) (.inr rfl) (by rw [hnx]; exact Nat.le_refl _) (tbS_wf hwf s hid hkd) (((Ext.refl _).new _).sub (tbS_wf hwf s hid hkd)) rfl trivial (by simp only [tupD, frzD, if_true, D.lt, Own.lt]; exact ⟨trivial, encB_lt _ _⟩) ⟨rfl, rfl⟩

theorem begins9_calls {id k : Nat} {s : ByteArray} {xs : List Nat} (σ : St) (ho : σ.obj id = some (tabO s k 1 0 1 xs)) : HCalls Try.prog 21 [.ptr id 0] σ (fun d σ' => d = .slice .no 1 (encB xs) ∧ σ' = σ) := by
  refine hcalls_body (fn := Try.f21) rfl c21 (by simp [h21]) (by simp [h21, Try.f21]) ?_
  intro M hP hr hnt hnx hwf hlt
  simp only [h21, argEnv]
  have hid := (hwf.obj _ _ ho).1
  have m1 : ¬ id = σ.next := by omega
  have m1' : ¬ σ.next = id := by omega
  refine hgo_sound 60 ?_
  simp -implicitDefEqProofs (maxSteps := 1000000) only [simpS, ↓condJ_true, ↓condJ_false, ↓reduceIte, Nat.reduceEqDiff, Nat.reduceLT, Nat.reduceLeDiff, reduceCtorEq, Nat.reduceAdd, Nat.reduceSub, bindG_none, addG_none, hgrpK_none, nestK_none, hgrpK_guarded, Option.map_none, beq_self_eq_true, bne_self_eq_false, Option.map_some, if_true, if_false, List.getD_cons_zero, List.getD_cons_succ, List.length_cons, List.length_nil, List.mem_cons, List.not_mem_nil, List.mem_append, List.nil_append, List.cons_append, List.append_nil, List.take_succ_cons, List.take_zero, List.drop_succ_cons, List.drop_zero, List.set_cons_zero, List.set_cons_succ, List.map_cons, List.map_nil, implies_true, forall_const, ne_eq, ho, m1]
  refine hx_call (f := .fn 27) rfl (by rw [hP]; exact hcallD_func (do1_calls (id := id) (k := k) (s := s) (xs := xs) (σ.new (.bx none [.ptr id 0])) (by simp only [St.obj_new, m1, if_false, ho]))) ?_
  rintro _ σ2 rfl
  refine hgo_sound 60 ?_
  simp -implicitDefEqProofs (maxSteps := 1000000) only [simpS, ↓condJ_true, ↓condJ_false, ↓reduceIte, Nat.reduceEqDiff, Nat.reduceLT, Nat.reduceLeDiff, reduceCtorEq, Nat.reduceAdd, Nat.reduceSub, bindG_none, addG_none, hgrpK_none, nestK_none, hgrpK_guarded, Option.map_none, beq_self_eq_true, bne_self_eq_false, Option.map_some, if_true, if_false, List.getD_cons_zero, List.getD_cons_succ, List.length_cons, List.length_nil, List.mem_cons, List.not_mem_nil, List.mem_append, List.nil_append, List.cons_append, List.append_nil, List.take_succ_cons, List.take_zero, List.drop_succ_cons, List.drop_zero, List.set_cons_zero, List.set_cons_succ, List.map_cons, List.map_nil, implies_true, forall_const, ne_eq, m1, m1', ho, tabO_eq]
  exact fpost_strip (σ0 := σ) (ds := [.slice (.tok k) 1 (encB xs)]) (Wk.refl _) (.inr rfl) (by rw [hnx]; exact Nat.le_refl _) hwf (((Ext.refl _).new _).sub hwf) rfl trivial (by simp only [tupD, frzD, if_true, D.lt, Own.lt]; exact ⟨trivial, encB_lt _ _⟩) ⟨rfl, rfl⟩


end Go.Hl
