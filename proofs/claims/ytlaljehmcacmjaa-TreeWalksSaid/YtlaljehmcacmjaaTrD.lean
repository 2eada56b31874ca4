/-
  tree.Leaves, tree.Count, tree.Stands.
-/
import Derived.Test.YtlaljehmcacmjaaTrC
set_option linter.unusedSectionVars false
set_option linter.unusedVariables false
set_option linter.unusedSimpArgs false
set_option maxRecDepth 100000
namespace Go.Hl
open Go Go.Proofs

def encL (n : Nd) : List D := [.agg (encN n)]
def leavesL : List (Int × Nd) → List Nd
  | [] => []
  | (d, n) :: r => if n.kind = 1 then n :: leavesL r else leavesL r

def leafStep (tk : Tk Nd) (c : tk.C) (x : Int × Nd) : tk.C × Option HC :=
  if x.2.kind = 1 then ((tk.step c x.2).1, if (tk.step c x.2).2 then none else some .ret) else (c, none)

theorem leafStep_run (tk : Tk Nd) : ∀ (xs : List (Int × Nd)) (c : tk.C), rngRun (leafStep tk) c xs = ((tk.run c (leavesL xs)).1, if (tk.run c (leavesL xs)).2 then none else some .ret)
  | [], c => rfl
  | (d, x) :: xs, c => by
    by_cases hk : x.kind = 1
    · have hl : leavesL ((d, x) :: xs) = x :: leavesL xs := by simp [leavesL, hk]
      rw [hl]
      by_cases hb : (tk.step c x).2 = true
      · have hs : leafStep tk c (d, x) = ((tk.step c x).1, none) := by simp [leafStep, hk, hb]
        rw [Tk.run_true hb]
        simp only [rngRun, hs]
        exact leafStep_run tk xs _
      · have hs : leafStep tk c (d, x) = ((tk.step c x).1, some .ret) := by simp [leafStep, hk, hb]
        rw [Tk.run_false (by simpa using hb)]
        simp only [rngRun, hs]
        rfl
    · have hl : leavesL ((d, x) :: xs) = leavesL xs := by simp [leavesL, hk]
      have hs : leafStep tk c (d, x) = (c, none) := by simp [leafStep, hk]
      rw [hl]
      simp only [rngRun, hs]
      exact leafStep_run tk xs c

theorem leafStep_oks (tk : Tk Nd) : ∀ (xs : List (Int × Nd)) (c : tk.C), tk.oks c (leavesL xs) → rngOks (fun c (x : Int × Nd) => x.2.kind = 1 → tk.ok c x.2) (leafStep tk) c xs
  | [], c, _ => trivial
  | (d, x) :: xs, c, h => by
    by_cases hk : x.kind = 1
    · have hl : leavesL ((d, x) :: xs) = x :: leavesL xs := by simp [leavesL, hk]
      rw [hl] at h
      refine ⟨fun _ => h.1, fun hn => ?_⟩
      by_cases hb : (tk.step c x).2 = true
      · have hs : leafStep tk c (d, x) = ((tk.step c x).1, none) := by simp [leafStep, hk, hb]
        rw [hs]
        exact leafStep_oks tk xs _ (h.2 hb)
      · have hs : leafStep tk c (d, x) = ((tk.step c x).1, some .ret) := by simp [leafStep, hk, hb]
        rw [hs] at hn
        cases hn
    · have hl : leavesL ((d, x) :: xs) = leavesL xs := by simp [leavesL, hk]
      have hs : leafStep tk c (d, x) = (c, none) := by simp [leafStep, hk]
      rw [hl] at h
      refine ⟨fun h1 => absurd h1 hk, fun hn => ?_⟩
      rw [hs]
      exact leafStep_oks tk xs c h

theorem ltL_one {n : Nat} {d : D} (h : d.lt n) : ltL n [d] := ⟨h, trivial⟩

theorem leaves_iter (n : Nd) (hn : cntN n ≤ 1099511627776) : Iter Try.prog 41 (fun y => [y, .eptr (encN n) 0]) encL (leavesL (walkN n)) := by
  intro tk c y hok hy
  refine hcalls_body (fn := Try.f41) rfl c41 (by simp [h41]) (by simp [h41, Try.f41]) ?_
  intro M hP hr hnt hnx hwf hlt
  simp only [h41, argEnv]
  refine hgo_sound 20 ?_
  simp -implicitDefEqProofs (maxSteps := 1000000) only [simpS, ↓condJ_true, ↓condJ_false, ↓reduceIte, Nat.reduceEqDiff, Nat.reduceLT, Nat.reduceLeDiff, reduceCtorEq, Nat.reduceAdd, Nat.reduceSub, Option.map_some, if_true, if_false, List.getD_cons_zero, List.getD_cons_succ, List.length_cons, List.length_nil, List.mem_cons, List.not_mem_nil, List.mem_append, List.nil_append, List.cons_append, List.append_nil, List.take_succ_cons, List.take_zero, List.drop_succ_cons, List.drop_zero, List.set_cons_zero, List.set_cons_succ, List.map_cons, List.map_nil, implies_true, forall_const, ne_eq, hy.one, encN_length, tk.next]
  refine hx_call (f := .fn 20) rfl (by rw [hP]; exact hcallD_func (walk_calls n _)) ?_
  rintro _ σ2 ⟨rfl, rfl⟩
  refine hgo_sound 6 ?_
  simp -implicitDefEqProofs (maxSteps := 1000000) only [simpS, ↓condJ_true, ↓condJ_false, ↓reduceIte, Nat.reduceEqDiff, Nat.reduceLT, Nat.reduceLeDiff, reduceCtorEq, Nat.reduceAdd, Nat.reduceSub, Option.map_some, if_true, if_false, List.getD_cons_zero, List.getD_cons_succ, List.length_cons, List.length_nil, List.mem_cons, List.not_mem_nil, List.mem_append, List.nil_append, List.cons_append, List.append_nil, List.take_succ_cons, List.take_zero, List.drop_succ_cons, List.drop_zero, List.set_cons_zero, List.set_cons_succ, List.map_cons, List.map_nil, implies_true, forall_const, ne_eq]
  refine hx_know_code fun hw hl hn1 => ?_
  have hylt : y.lt (tk.N + 1) := D.lt_mono (Nat.le_succ _) _ hy.lt
  have hS : ∀ c, ((tk.T c).new (.box [y])).wf := fun c => (tk.wf c).box (ltL_one (by rw [tk.next]; exact hylt))
  refine hx_range_fold (fn := 40) (caps := [.eptr (encN n) 0]) (xs := walkN n) (enc := encX) (fun c => (tk.T c).new (.box [y]))
    (fun c (x : Int × Nd) => x.2.kind = 1 → tk.ok c x.2) (leafStep tk) c rfl (by rw [hP]; rfl) (fun _ _ h => by rw [hr] at h; cases h) (by rw [hP]; exact walk_iter n hn) rfl
    (fun c => by rw [St.next_new, St.next_new, tk.next, tk.next]) (fun c c' => tk.glob c c') hS hl (leafStep_oks tk _ _ hok) (fun _ => rfl) (by rw [hnt]; decide) ?_ ?_
  · -- a round
    rintro c1 ⟨dd, x⟩ τ hk1 hle hτ hgl M' hP' hnt' hr' hnx' hwf' hlt'
    simp only [St.next_new, tk.next, Nat.add_assoc, Nat.reduceAdd] at hle hk1 hl ⊢
    simp only [encX, putsE]
    have n1 : ¬ τ.next < tk.N + 2 := by omega
    have n2 : ¬ τ.next < tk.N + 1 := by omega
    refine hgo_sound 20 ?_
    simp -implicitDefEqProofs (maxSteps := 1000000) only [simpS, ↓condJ_true, ↓condJ_false, ↓reduceIte, Nat.reduceEqDiff, Nat.reduceLT, Nat.reduceLeDiff, reduceCtorEq, Nat.reduceAdd, Nat.reduceSub, Option.map_some, if_true, if_false, List.getD_cons_zero, List.getD_cons_succ, List.length_cons, List.length_nil, List.mem_cons, List.not_mem_nil, List.mem_append, List.nil_append, List.cons_append, List.append_nil, List.take_succ_cons, List.take_zero, List.drop_succ_cons, List.drop_zero, List.set_cons_zero, List.set_cons_succ, List.map_cons, List.map_nil, implies_true, forall_const, ne_eq, encN_length, tk.next, hle, n1, n2]
    by_cases hk : x.kind = 1
    · have hkd : (x.kind == 1) = true := by rw [hk]; rfl
      refine hgo_sound 40 ?_
      simp -implicitDefEqProofs (maxSteps := 1000000) only [simpS, ↓condJ_true, ↓condJ_false, ↓reduceIte, Nat.reduceEqDiff, Nat.reduceLT, Nat.reduceLeDiff, reduceCtorEq, Nat.reduceAdd, Nat.reduceSub, Option.map_some, if_true, if_false, List.getD_cons_zero, List.getD_cons_succ, List.length_cons, List.length_nil, List.mem_cons, List.not_mem_nil, List.mem_append, List.nil_append, List.cons_append, List.append_nil, List.take_succ_cons, List.take_zero, List.drop_succ_cons, List.drop_zero, List.set_cons_zero, List.set_cons_succ, List.map_cons, List.map_nil, implies_true, forall_const, ne_eq, encN_length, encN_kind, hkd, tk.next, hle, n1, n2]
      refine hx_call rfl (by rw [hP', hP]; exact hy.call c1 x _ ((((tk.low c1).new _).new _).of_mix (by omega) (by rw [St.next_new]; omega) hgl) (hk1 hk)) ?_
      rintro _ σ7 ⟨rfl, rfl⟩
      rw [mix_in (by omega), tk.mixT_new2]
      refine hgo_sound 30 ?_
      simp -implicitDefEqProofs (maxSteps := 1000000) only [simpS, ↓condJ_true, ↓condJ_false, ↓reduceIte, Nat.reduceEqDiff, Nat.reduceLT, Nat.reduceLeDiff, reduceCtorEq, Nat.reduceAdd, Nat.reduceSub, Option.map_some, if_true, if_false, List.getD_cons_zero, List.getD_cons_succ, List.length_cons, List.length_nil, List.mem_cons, List.not_mem_nil, List.mem_append, List.nil_append, List.cons_append, List.append_nil, List.take_succ_cons, List.take_zero, List.drop_succ_cons, List.drop_zero, List.set_cons_zero, List.set_cons_succ, List.map_cons, List.map_nil, implies_true, forall_const, ne_eq]
      refine ⟨fun hb => ?_, fun hb => ?_⟩
      · have hb' : (tk.step c1 x).2 = false := by simpa using hb
        have hs : leafStep tk c1 (dd, x) = ((tk.step c1 x).1, some .ret) := by simp [leafStep, hk, hb']
        rw [hs]
        exact round_ret rfl (by rw [St.next_new, tk.next]) (hS _) hl hτ hle ((Ext.refl τ).new _)
      · have hb' : (tk.step c1 x).2 = true := by simpa using hb
        have hs : leafStep tk c1 (dd, x) = ((tk.step c1 x).1, none) := by simp [leafStep, hk, hb']
        rw [hs]
        exact round_next rfl (by rw [St.next_new, tk.next]) (hS _) hl hτ hle ((Ext.refl τ).new _)
    · have hkd : (x.kind == 1) = false := by simpa using hk
      have hs : leafStep tk c1 (dd, x) = (c1, none) := by simp [leafStep, hk]
      refine hgo_sound 40 ?_
      simp -implicitDefEqProofs (maxSteps := 1000000) only [simpS, ↓condJ_true, ↓condJ_false, ↓reduceIte, Nat.reduceEqDiff, Nat.reduceLT, Nat.reduceLeDiff, reduceCtorEq, Nat.reduceAdd, Nat.reduceSub, Option.map_some, if_true, if_false, List.getD_cons_zero, List.getD_cons_succ, List.length_cons, List.length_nil, List.mem_cons, List.not_mem_nil, List.mem_append, List.nil_append, List.cons_append, List.append_nil, List.take_succ_cons, List.take_zero, List.drop_succ_cons, List.drop_zero, List.set_cons_zero, List.set_cons_succ, List.map_cons, List.map_nil, implies_true, forall_const, ne_eq, encN_length, encN_kind, hkd, tk.next, hle, n1, n2]
      refine hx_op_not (by rfl) (by rfl) ?_
      refine hgo_sound 30 ?_
      simp -implicitDefEqProofs (maxSteps := 1000000) only [simpS, ↓condJ_true, ↓condJ_false, ↓reduceIte, Nat.reduceEqDiff, Nat.reduceLT, Nat.reduceLeDiff, reduceCtorEq, Nat.reduceAdd, Nat.reduceSub, Option.map_some, if_true, if_false, List.getD_cons_zero, List.getD_cons_succ, List.length_cons, List.length_nil, List.mem_cons, List.not_mem_nil, List.mem_append, List.nil_append, List.cons_append, List.append_nil, List.take_succ_cons, List.take_zero, List.drop_succ_cons, List.drop_zero, List.set_cons_zero, List.set_cons_succ, List.map_cons, List.map_nil, implies_true, forall_const, ne_eq]
      rw [hs]
      exact round_next rfl (by rw [St.next_new, tk.next]) (hS c1) hl hτ hle ((Ext.refl τ).new _)
  · rw [leafStep_run]
    generalize tk.run c (leavesL (walkN n)) = rr
    obtain ⟨c', b'⟩ := rr
    have hsub : Sub (tk.T c') ((tk.T c').new (.box [y])).bump := ((Ext.refl (tk.T c')).new _).bump.sub (tk.wf c')
    cases b'
    · exact hx_ret (fpost_pure (.inr rfl) (by rw [hnx, tk.next, tk.next]; exact Nat.le_refl _) (tk.wf c') hsub rfl trivial (by simp only [tupD, D.lt, ltL]) rfl)
    · exact hx_inBlock (hx_nil (fpost_pure (.inl rfl) (by rw [hnx, tk.next, tk.next]; exact Nat.le_refl _) (tk.wf c') hsub rfl trivial (by simp only [tupD, D.lt, ltL]) rfl))


/-! ### tree.Count -/

def countStep (c : Int) (x : Int × Nd) : Int × Option HC := (c + 1, none)
theorem countStep_run : ∀ (xs : List (Int × Nd)) (c : Int), rngRun countStep c xs = (c + xs.length, none)
  | [], c => by simp [rngRun]
  | x :: xs, c => by
    simp only [rngRun, countStep]
    rw [countStep_run xs]
    simp only [List.length_cons]
    congr 1
    omega
theorem countStep_oks : ∀ (xs : List (Int × Nd)) (c : Int), 0 ≤ c → c + xs.length ≤ 1099511627776 → rngOks (fun (c : Int) (x : Int × Nd) => 0 ≤ c ∧ c < 1099511627776) countStep c xs
  | [], c, _, _ => trivial
  | x :: xs, c, h0, h1 => by
    simp only [List.length_cons] at h1
    exact ⟨⟨h0, by omega⟩, fun _ => countStep_oks xs _ (by show 0 ≤ c + 1; omega) (by show c + 1 + _ ≤ _; omega)⟩

theorem walkN_len (n : Nd) : (walkN n).length ≤ cntN n := by
  unfold walkN
  split
  · rw [preN_len]; exact Nat.le_refl _
  · simp

theorem count_calls (n : Nd) (hn : cntN n ≤ 1099511627776) (σ : St) : HCalls Try.prog 14 [.agg (encN n)] σ (fun d σ' => d = .int .i64 (walkN n).length ∧ σ' = σ) := by
  refine hcalls_body (fn := Try.f14) rfl c14 (by simp [h14]) (by simp [h14, Try.f14]) ?_
  intro M hP hr hnt hnx hwf hlt
  simp only [h14, argEnv]
  refine hgo_sound 40 ?_
  simp -implicitDefEqProofs (maxSteps := 1000000) only [simpS, ↓condJ_true, ↓condJ_false, ↓reduceIte, Nat.reduceEqDiff, Nat.reduceLT, Nat.reduceLeDiff, reduceCtorEq, Nat.reduceAdd, Nat.reduceSub, Option.map_some, if_true, if_false, List.getD_cons_zero, List.getD_cons_succ, List.length_cons, List.length_nil, List.mem_cons, List.not_mem_nil, List.mem_append, List.nil_append, List.cons_append, List.append_nil, List.take_succ_cons, List.take_zero, List.drop_succ_cons, List.drop_zero, List.set_cons_zero, List.set_cons_succ, List.map_cons, List.map_nil, implies_true, forall_const, ne_eq, encN_length]
  refine hx_call (f := .fn 20) rfl (by rw [hP]; exact hcallD_func (walk_calls n _)) ?_
  rintro _ σ2 ⟨rfl, rfl⟩
  refine hgo_sound 6 ?_
  simp -implicitDefEqProofs (maxSteps := 1000000) only [simpS, ↓condJ_true, ↓condJ_false, ↓reduceIte, Nat.reduceEqDiff, Nat.reduceLT, Nat.reduceLeDiff, reduceCtorEq, Nat.reduceAdd, Nat.reduceSub, Option.map_some, if_true, if_false, List.getD_cons_zero, List.getD_cons_succ, List.length_cons, List.length_nil, List.mem_cons, List.not_mem_nil, List.mem_append, List.nil_append, List.cons_append, List.append_nil, List.take_succ_cons, List.take_zero, List.drop_succ_cons, List.drop_zero, List.set_cons_zero, List.set_cons_succ, List.map_cons, List.map_nil, implies_true, forall_const, ne_eq]
  refine hx_know_code fun hw hl hn1 => ?_
  have hS : ∀ c : Int, ((σ.new (.box (encN n))).new (.box [.int .i64 c])).wf := fun c => (hwf.box (encN_lt _ n)).box ⟨trivial, trivial⟩
  have hlen := walkN_len n
  refine hx_range_fold (fn := 40) (caps := [.eptr (encN n) 0]) (xs := walkN n) (enc := encX) (fun c : Int => (σ.new (.box (encN n))).new (.box [.int .i64 c]))
    (fun (c : Int) (x : Int × Nd) => 0 ≤ c ∧ c < 1099511627776) countStep 0 rfl (by rw [hP]; rfl) (fun _ _ h => by rw [hr] at h; cases h) (by rw [hP]; exact walk_iter n hn) rfl
    (fun c => rfl) (fun c c' => rfl) hS hl (countStep_oks _ _ (by omega) (by omega)) (fun _ => rfl) (by rw [hnt]; decide) ?_ ?_
  · rintro c1 ⟨dd, x⟩ τ ⟨hk0, hk1⟩ hle hτ hgl M' hP' hnt' hr' hnx' hwf' hlt'
    simp only [St.next_new, Nat.add_assoc, Nat.reduceAdd] at hle hl ⊢
    simp only [encX, putsE]
    have hw : IntKind.i64.wrap (c1 + 1) = c1 + 1 := IntWalk.i64_in _ (by omega)
    refine hgo_sound 20 ?_
    simp -implicitDefEqProofs (maxSteps := 1000000) only [simpS, ↓condJ_true, ↓condJ_false, ↓reduceIte, Nat.reduceEqDiff, Nat.reduceLT, Nat.reduceLeDiff, reduceCtorEq, Nat.reduceAdd, Nat.reduceSub, Option.map_some, if_true, if_false, List.getD_cons_zero, List.getD_cons_succ, List.length_cons, List.length_nil, List.mem_cons, List.not_mem_nil, List.mem_append, List.nil_append, List.cons_append, List.append_nil, List.take_succ_cons, List.take_zero, List.drop_succ_cons, List.drop_zero, List.set_cons_zero, List.set_cons_succ, List.map_cons, List.map_nil, implies_true, forall_const, ne_eq, encN_length, hle]
    refine hgo_sound 40 ?_
    simp -implicitDefEqProofs (maxSteps := 1000000) only [simpS, ↓condJ_true, ↓condJ_false, ↓reduceIte, Nat.reduceEqDiff, Nat.reduceLT, Nat.reduceLeDiff, reduceCtorEq, Nat.reduceAdd, Nat.reduceSub, Option.map_some, if_true, if_false, List.getD_cons_zero, List.getD_cons_succ, List.length_cons, List.length_nil, List.mem_cons, List.not_mem_nil, List.mem_append, List.nil_append, List.cons_append, List.append_nil, List.take_succ_cons, List.take_zero, List.drop_succ_cons, List.drop_zero, List.set_cons_zero, List.set_cons_succ, List.map_cons, List.map_nil, implies_true, forall_const, ne_eq, encN_length, hle, hw]
    exact round_next rfl rfl (hS _) hl hτ hle (Ext.refl τ)
  · rw [countStep_run]
    refine hx_inBlock ?_
    refine hgo_sound 40 ?_
    simp -implicitDefEqProofs (maxSteps := 1000000) only [simpS, ↓condJ_true, ↓condJ_false, ↓reduceIte, Nat.reduceEqDiff, Nat.reduceLT, Nat.reduceLeDiff, reduceCtorEq, Nat.reduceAdd, Nat.reduceSub, Option.map_some, if_true, if_false, List.getD_cons_zero, List.getD_cons_succ, List.length_cons, List.length_nil, List.mem_cons, List.not_mem_nil, List.mem_append, List.nil_append, List.cons_append, List.append_nil, List.take_succ_cons, List.take_zero, List.drop_succ_cons, List.drop_zero, List.set_cons_zero, List.set_cons_succ, List.map_cons, List.map_nil, implies_true, forall_const, ne_eq]
    exact fpost_pure (.inr rfl) (by rw [hnx]; exact Nat.le_refl _) hwf (((Ext.refl σ).new _).new _ |>.bump.sub hwf) rfl trivial (by simp [tupD, D.lt, look]) ⟨by simp [tupD, look], rfl⟩

/-! ### tree.Stands -/

def standStep (c : Int × Bool) (x : Nd) : (Int × Bool) × Option HC :=
  if IntKind.i64.wrap (x.at_ - x.gap.size) = c.1 then ((IntKind.i64.wrap (x.at_ + x.text.size), c.2), none) else ((c.1, false), some .ret)

def standsN (n : Nd) (from_ : Int) : Bool := rightN n && (rngRun standStep (from_, false) (leavesL (walkN n))).2.isNone

theorem standStep_oks : ∀ (xs : List Nd) (c : Int × Bool), rngOks (fun _ _ => True) standStep c xs
  | [], c => trivial
  | x :: xs, c => ⟨trivial, fun _ => standStep_oks xs _⟩

theorem standStep_jump : ∀ (xs : List Nd) (c : Int × Bool), c.2 = false → (rngRun standStep c xs).1.2 = false ∧ ((rngRun standStep c xs).2 = none ∨ (rngRun standStep c xs).2 = some .ret)
  | [], c, h => ⟨h, .inl rfl⟩
  | x :: xs, c, h => by
    by_cases hs : IntKind.i64.wrap (x.at_ - x.gap.size) = c.1
    · have : standStep c x = ((IntKind.i64.wrap (x.at_ + x.text.size), c.2), none) := by simp only [standStep, hs, if_true]
      simp only [rngRun, this]
      exact standStep_jump xs _ h
    · have : standStep c x = ((c.1, false), some .ret) := by simp only [standStep, hs, if_false]
      simp only [rngRun, this]
      exact ⟨trivial, .inr trivial⟩

theorem stands_calls (n : Nd) (hn : cntN n ≤ 1099511627776) (z : Int) (σ : St) : HCalls Try.prog 13 [.agg (encN n), .int .i64 z] σ (fun d σ' => d = .bool (standsN n z) ∧ σ' = σ) := by
  refine hcalls_body (fn := Try.f13) rfl c13 (by simp [h13]) (by simp [h13, Try.f13]) ?_
  intro M hP hr hnt hnx hwf hlt
  simp only [h13, argEnv]
  refine hgo_sound 40 ?_
  simp -implicitDefEqProofs (maxSteps := 1000000) only [simpS, ↓condJ_true, ↓condJ_false, ↓reduceIte, Nat.reduceEqDiff, Nat.reduceLT, Nat.reduceLeDiff, reduceCtorEq, Nat.reduceAdd, Nat.reduceSub, Option.map_some, if_true, if_false, List.getD_cons_zero, List.getD_cons_succ, List.length_cons, List.length_nil, List.mem_cons, List.not_mem_nil, List.mem_append, List.nil_append, List.cons_append, List.append_nil, List.take_succ_cons, List.take_zero, List.drop_succ_cons, List.drop_zero, List.set_cons_zero, List.set_cons_succ, List.map_cons, List.map_nil, implies_true, forall_const, ne_eq, encN_length]
  refine hx_call (f := .fn 11) rfl (by rw [hP]; exact hcallD_func (right_calls n hn _)) ?_
  rintro _ σ2 ⟨rfl, rfl⟩
  have hS : ∀ c : Int × Bool, (((σ.new (.box (encN n))).new (.box [.int .i64 c.1])).new (.box [.bool c.2])).wf := fun c => ((hwf.box (encN_lt _ n)).box (cs := [.int .i64 c.1]) ⟨trivial, trivial⟩).box (cs := [.bool c.2]) ⟨trivial, trivial⟩
  have hsub : ∀ c : Int × Bool, Ext σ (((σ.new (.box (encN n))).new (.box [.int .i64 c.1])).new (.box [.bool c.2])) := fun c => (((Ext.refl σ).new _).new _).new _
  refine hgo_sound 40 ?_
  simp -implicitDefEqProofs (maxSteps := 1000000) only [simpS, ↓condJ_true, ↓condJ_false, ↓reduceIte, Nat.reduceEqDiff, Nat.reduceLT, Nat.reduceLeDiff, reduceCtorEq, Nat.reduceAdd, Nat.reduceSub, Option.map_some, if_true, if_false, List.getD_cons_zero, List.getD_cons_succ, List.length_cons, List.length_nil, List.mem_cons, List.not_mem_nil, List.mem_append, List.nil_append, List.cons_append, List.append_nil, List.take_succ_cons, List.take_zero, List.drop_succ_cons, List.drop_zero, List.set_cons_zero, List.set_cons_succ, List.map_cons, List.map_nil, implies_true, forall_const, ne_eq, encN_length]
  refine ⟨fun hb => ?_, fun hb => ?_⟩
  · have hb' : rightN n = false := by simpa using hb
    refine fpost_pure (.inr rfl) (by rw [hnx]; exact Nat.le_refl _) hwf ((hsub (z, false)).sub hwf) (resD_cell (d := .bool false) rfl (by simp [St.obj_new, St.next_new]) resD_nil) ⟨by omega, trivial⟩ trivial ⟨?_, rfl⟩
    simp [tupD, standsN, hb']
  · have hb' : rightN n = true := by simpa using hb
    refine hx_call (f := .fn 22) rfl (by rw [hP]; exact hcallD_func (leaves_calls n _)) ?_
    rintro _ σ2 ⟨rfl, rfl⟩
    refine hgo_sound 6 ?_
    simp -implicitDefEqProofs (maxSteps := 1000000) only [simpS, ↓condJ_true, ↓condJ_false, ↓reduceIte, Nat.reduceEqDiff, Nat.reduceLT, Nat.reduceLeDiff, reduceCtorEq, Nat.reduceAdd, Nat.reduceSub, Option.map_some, if_true, if_false, List.getD_cons_zero, List.getD_cons_succ, List.length_cons, List.length_nil, List.mem_cons, List.not_mem_nil, List.mem_append, List.nil_append, List.cons_append, List.append_nil, List.take_succ_cons, List.take_zero, List.drop_succ_cons, List.drop_zero, List.set_cons_zero, List.set_cons_succ, List.map_cons, List.map_nil, implies_true, forall_const, ne_eq]
    refine hx_know_code fun hw hl hn1 => ?_
    refine hx_range_fold (fn := 41) (caps := [.eptr (encN n) 0]) (xs := leavesL (walkN n)) (enc := encL) (fun c : Int × Bool => ((σ.new (.box (encN n))).new (.box [.int .i64 c.1])).new (.box [.bool c.2]))
      (fun _ _ => True) standStep (z, false) rfl (by rw [hP]; rfl) (fun _ _ h => by rw [hr] at h; cases h) (by rw [hP]; exact leaves_iter n hn) rfl
      (fun c => rfl) (fun c c' => rfl) hS hl (standStep_oks _ _) (fun _ => rfl) (by rw [hnt]; decide) ?_ ?_
    · rintro ⟨c1, b1⟩ x τ - hle hτ hgl M' hP' hnt' hr' hnx' hwf' hlt'
      simp only [St.next_new, Nat.add_assoc, Nat.reduceAdd] at hle hl ⊢
      simp only [encL, putsE]
      have n1 : ¬ τ.next < σ.next + 4 := by omega
      refine hgo_sound 20 ?_
      simp -implicitDefEqProofs (maxSteps := 1000000) only [simpS, ↓condJ_true, ↓condJ_false, ↓reduceIte, Nat.reduceEqDiff, Nat.reduceLT, Nat.reduceLeDiff, reduceCtorEq, Nat.reduceAdd, Nat.reduceSub, Option.map_some, if_true, if_false, List.getD_cons_zero, List.getD_cons_succ, List.length_cons, List.length_nil, List.mem_cons, List.not_mem_nil, List.mem_append, List.nil_append, List.cons_append, List.append_nil, List.take_succ_cons, List.take_zero, List.drop_succ_cons, List.drop_zero, List.set_cons_zero, List.set_cons_succ, List.map_cons, List.map_nil, implies_true, forall_const, ne_eq, encN_length, hle, n1]
      refine hgo_sound 80 ?_
      simp -implicitDefEqProofs (maxSteps := 1000000) only [simpS, ↓condJ_true, ↓condJ_false, ↓reduceIte, Nat.reduceEqDiff, Nat.reduceLT, Nat.reduceLeDiff, reduceCtorEq, Nat.reduceAdd, Nat.reduceSub, Option.map_some, if_true, if_false, List.getD_cons_zero, List.getD_cons_succ, List.length_cons, List.length_nil, List.mem_cons, List.not_mem_nil, List.mem_append, List.nil_append, List.cons_append, List.append_nil, List.take_succ_cons, List.take_zero, List.drop_succ_cons, List.drop_zero, List.set_cons_zero, List.set_cons_succ, List.map_cons, List.map_nil, implies_true, forall_const, ne_eq, encN_length, encN_at, encN_gap, encN_text, hle, n1]
      by_cases hk : IntKind.i64.wrap (x.at_ - x.gap.size) = c1
      · have hs : standStep (c1, b1) x = ((IntKind.i64.wrap (x.at_ + x.text.size), b1), none) := by simp only [standStep, hk, if_true]
        have hk1 : (IntKind.i64.wrap (x.at_ - x.gap.size) != c1) = false := by simp [hk]
        rw [hk1, hs]
        refine ⟨fun h => (by cases h), fun _ => ?_⟩
        exact round_next rfl rfl (hS (_, b1)) hl hτ hle ((Ext.refl τ).new _)
      · have hs : standStep (c1, b1) x = ((c1, false), some .ret) := by simp only [standStep, hk, if_false]
        have hk1 : (IntKind.i64.wrap (x.at_ - x.gap.size) != c1) = true := by simp [hk]
        rw [hk1, hs]
        refine ⟨fun _ => ?_, fun h => by cases h⟩
        exact round_ret rfl rfl (hS (c1, false)) hl hτ hle ((Ext.refl τ).new _)
    · have hj := standStep_jump (leavesL (walkN n)) (z, false) rfl
      have hd : standsN n z = (rngRun standStep (z, false) (leavesL (walkN n))).2.isNone := by simp [standsN, hb']
      rw [hd]
      generalize hrr : rngRun standStep (z, false) (leavesL (walkN n)) = rr at hj ⊢
      obtain ⟨⟨c', b'⟩, j⟩ := rr
      obtain ⟨rfl, hj⟩ := hj
      rcases hj with rfl | rfl
      · refine hx_inBlock ?_
        refine hgo_sound 40 ?_
        simp -implicitDefEqProofs (maxSteps := 1000000) only [simpS, ↓condJ_true, ↓condJ_false, ↓reduceIte, Nat.reduceEqDiff, Nat.reduceLT, Nat.reduceLeDiff, reduceCtorEq, Nat.reduceAdd, Nat.reduceSub, Option.map_some, if_true, if_false, List.getD_cons_zero, List.getD_cons_succ, List.length_cons, List.length_nil, List.mem_cons, List.not_mem_nil, List.mem_append, List.nil_append, List.cons_append, List.append_nil, List.take_succ_cons, List.take_zero, List.drop_succ_cons, List.drop_zero, List.set_cons_zero, List.set_cons_succ, List.map_cons, List.map_nil, implies_true, forall_const, ne_eq]
        exact fpost_pure (.inr rfl) (by rw [hnx]; exact Nat.le_refl _) hwf ((hsub (c', true)).bump.sub hwf) (resD_cell (d := .bool true) rfl (by simp [St.obj_new, St.next_new, St.obj_bump]) resD_nil) ⟨by omega, trivial⟩ trivial ⟨rfl, rfl⟩
      · exact hx_ret (fpost_pure (.inr rfl) (by rw [hnx]; exact Nat.le_refl _) hwf ((hsub (c', false)).bump.sub hwf) (resD_cell (d := .bool false) rfl (by simp [St.obj_new, St.next_new, St.obj_bump]) resD_nil) ⟨by omega, trivial⟩ trivial ⟨rfl, rfl⟩)

end Go.Hl
