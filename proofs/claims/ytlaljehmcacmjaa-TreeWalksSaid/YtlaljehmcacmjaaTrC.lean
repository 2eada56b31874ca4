/-
  tree.formed, tree.Right, tree.Walk, tree.Leaves, tree.Count.
-/
import Derived.Test.YtlaljehmcacmjaaTrB
set_option linter.unusedSectionVars false
set_option linter.unusedVariables false
set_option linter.unusedSimpArgs false
set_option maxRecDepth 100000
namespace Go.Hl
open Go Go.Proofs

def formedB : Nd → Bool
  | .mk k g t a ks =>
    if k < 1 ∨ k > 32 then false
    else if k = 1 then decide (¬ t = ⟨#[]⟩ ∧ a ≥ 0 ∧ ks = [])
    else decide (t = ⟨#[]⟩ ∧ g = ⟨#[]⟩ ∧ a = 0)

theorem formed_calls (n : Nd) (σ : St) : HCalls Try.prog 36 [.agg (encN n)] σ (fun d σ' => d = .bool (formedB n) ∧ σ' = σ) := by
  refine hcalls_body (fn := Try.f36) rfl c36 (by simp [h36]) (by simp [h36, Try.f36]) ?_
  intro M hP hr hnt hnx hwf hlt
  obtain ⟨k, g, t, a, ks⟩ := n
  simp only [h36, argEnv]
  refine hgo_sound 200 ?_
  simp -implicitDefEqProofs (maxSteps := 1000000) only [simpS, ↓condJ_true, ↓condJ_false, ↓reduceIte, Nat.reduceEqDiff, Nat.reduceLT, Nat.reduceLeDiff, reduceCtorEq, Nat.reduceAdd, Nat.reduceSub, Option.map_some, if_true, if_false, List.getD_cons_zero, List.getD_cons_succ, List.length_cons, List.length_nil, List.mem_cons, List.not_mem_nil, List.mem_append, List.nil_append, List.cons_append, List.append_nil, List.take_succ_cons, List.take_zero, List.drop_succ_cons, List.drop_zero, List.set_cons_zero, List.set_cons_succ, List.map_cons, List.map_nil, implies_true, forall_const, ne_eq, encN]
  have fin : ∀ (b : Bool) (e : Env) (σ1 : St), look e 2 = .bool b → Sub σ σ1 → b = formedB (.mk k g t a ks) → FPost M.gS.next [HR.tmp 2] (fun d σ' => d = .bool (formedB (.mk k g t a ks)) ∧ σ' = σ) .ret e σ1 := by
    intro b e σ1 h1 h2 h3
    refine fpost_pure (σ0 := σ) (.inr rfl) (by omega) hwf h2 (by simp only [resD, h1]; rfl) trivial ?_ ⟨by rw [← h3]; rfl, rfl⟩
    simp only [tupD, D.lt]
  have hsub := fun o => Sub.new hwf (Sub.refl σ) o
  have hlen : (((encNs ks).length : Int) == 0) = decide (ks = []) := by
    rw [encNs_length]
    cases ks with
    | nil => rfl
    | cons x xs => simp; omega
  refine ⟨fun h1 => fin _ _ _ rfl (hsub _) ?_, fun h1 => ⟨fun h2 => fin _ _ _ rfl (hsub _) ?_, fun h2 => fin _ _ _ rfl (hsub _) ?_⟩⟩ <;> simp only [formedB] <;> simp at h1 <;> (try simp at h2)
  all_goals (by_cases hk : k < 1 <;> simp [hk] at h1 ⊢ <;> (try omega))
  · have : ¬ (32 < k) := by omega
    simp [this, h2, hlen, Bool.and_assoc]
  · have : ¬ (32 < k) := by omega
    have e : (a == 0) = decide (a = 0) := by simp [BEq.beq]
    simp [this, h2, e, Bool.and_assoc]

/-- A node and those below it: is each as told, and are they not too many? -/
def rightStep (c : Int × Bool) (x : Int × Nd) : (Int × Bool) × Bool :=
  ((c.1 + 1, formedB x.2 && decide (c.1 + 1 + x.2.kids.length ≤ 20000)), formedB x.2 && decide (c.1 + 1 + x.2.kids.length ≤ 20000))

/-- The store of tree.Right. -/
def rightS (σ : St) (n : Nd) (c : Int × Bool) : St := ((σ.new (.box (encN n))).new (.box [.int .i64 c.1])).new (.box [.bool c.2])

def rightTk (σ : St) (hw : σ.wf) (n : Nd) : Tk (Int × Nd) where
  C := Int × Bool
  N := σ.next + 3
  T := rightS σ n
  ok c x := 0 ≤ c.1 ∧ c.1 ≤ 1099511627776 ∧ (x.2.kids.length : Int) ≤ 1099511627776
  step := rightStep
  next _ := rfl
  glob _ _ := rfl
  wf c := ((hw.box (encN_lt _ n)).box (cs := [.int .i64 c.1]) ⟨trivial, trivial⟩).box (cs := [.bool c.2]) ⟨trivial, trivial⟩

theorem right_takes (σ : St) (hw : σ.wf) (n : Nd) : (rightTk σ hw n).Takes Try.prog encX (.func 35 [.ptr (σ.next + 1) 0, .ptr (σ.next + 2) 0]) := by
  refine ⟨?_, rfl, ?_⟩
  · simp only [D.lt, ltL, rightTk]
    exact ⟨by omega, by omega, trivial⟩
  rintro ⟨m, b⟩ ⟨dd, x⟩ τ hlow ⟨b1, b2, b3⟩
  rw [← hlow.eq]
  have hle : σ.next + 3 ≤ τ.next := hlow.next
  have hgl := hlow.glob
  refine hcallD_func ?_
  refine hcalls_body (fn := Try.f35) rfl c35 (by simp [h35, encX]) (by simp [h35, Try.f35, encX]) ?_
  intro M hP hr hnt hnx hwf hlt
  rw [hlow.eq] at hwf
  simp only [h35, encX, List.cons_append, List.nil_append, argEnv]
  simp only at b1 b2 b3
  have hw1 : IntKind.i64.wrap (m + 1) = m + 1 := IntWalk.i64_in _ (by omega)
  have hw2 : IntKind.i64.wrap (m + 1 + (x.kids.length : Int)) = m + 1 + (x.kids.length : Int) := IntWalk.i64_in _ (by omega)
  have n1 : ¬ τ.next < σ.next + 3 := by omega
  refine hgo_sound 40 ?_
  simp -implicitDefEqProofs (maxSteps := 1000000) only [simpS, ↓condJ_true, ↓condJ_false, ↓reduceIte, Nat.reduceEqDiff, Nat.reduceLT, Nat.reduceLeDiff, reduceCtorEq, Nat.reduceAdd, Nat.reduceSub, Option.map_some, if_true, if_false, List.getD_cons_zero, List.getD_cons_succ, List.length_cons, List.length_nil, List.mem_cons, List.not_mem_nil, List.mem_append, List.nil_append, List.cons_append, List.append_nil, List.take_succ_cons, List.take_zero, List.drop_succ_cons, List.drop_zero, List.set_cons_zero, List.set_cons_succ, List.map_cons, List.map_nil, implies_true, forall_const, ne_eq, encN_length, rightTk, rightS, hw1, hle, n1]
  refine hx_call (f := .fn 36) rfl (by rw [hP]; exact hcallD_func (formed_calls x _)) ?_
  rintro _ _ ⟨rfl, rfl⟩
  refine hgo_sound 40 ?_
  simp -implicitDefEqProofs (maxSteps := 1000000) only [simpS, ↓condJ_true, ↓condJ_false, ↓reduceIte, Nat.reduceEqDiff, Nat.reduceLT, Nat.reduceLeDiff, reduceCtorEq, Nat.reduceAdd, Nat.reduceSub, Option.map_some, if_true, if_false, List.getD_cons_zero, List.getD_cons_succ, List.length_cons, List.length_nil, List.mem_cons, List.not_mem_nil, List.mem_append, List.nil_append, List.cons_append, List.append_nil, List.take_succ_cons, List.take_zero, List.drop_succ_cons, List.drop_zero, List.set_cons_zero, List.set_cons_succ, List.map_cons, List.map_nil, implies_true, forall_const, ne_eq, encN_length, encN_kids, encNs_length, hw1, hw2, hle, n1]
  have hb : (if formedB x = true then decide (m + 1 + (x.kids.length : Int) ≤ 20000) else false) = (formedB x && decide (m + 1 + (x.kids.length : Int) ≤ 20000)) := by cases formedB x <;> rfl
  rw [hb]
  simp only [mix_mix, encX] at hnx ⊢
  refine fpost_mix (.inr rfl) hnx rfl ((rightTk σ hw n).wf (rightStep (m, b) (dd, x)).1) rfl hwf hle ((Ext.refl τ).new _) rfl trivial rfl trivial

/-- What the walk of tree.Right comes to. -/
def rightRun : Int × Bool → List (Int × Nd) → Int × Bool
  | c, [] => c
  | c, x :: xs => if (rightStep c x).2 then rightRun (rightStep c x).1 xs else (rightStep c x).1

theorem rightTk_run (σ : St) (hw : σ.wf) (n : Nd) : ∀ (xs : List (Int × Nd)) (c : Int × Bool), ((rightTk σ hw n).run c xs).1 = rightRun c xs
  | [], c => rfl
  | x :: xs, c => by
    by_cases h : (rightStep c x).2 = true
    · rw [Tk.run_true (tk := rightTk σ hw n) (c := c) h, rightRun, if_pos h]
      exact rightTk_run σ hw n xs _
    · rw [Tk.run_false (tk := rightTk σ hw n) (c := c) (Bool.eq_false_iff.2 h), rightRun, if_neg h]
      rfl

theorem rightTk_oks (σ : St) (hw : σ.wf) (n : Nd) : ∀ (xs : List (Int × Nd)) (c : Int × Bool), 0 ≤ c.1 → c.1 + xs.length ≤ 1099511627776 → (∀ x ∈ xs, (x.2.kids.length : Int) ≤ 1099511627776) → (rightTk σ hw n).oks c xs
  | [], c, _, _, _ => trivial
  | x :: xs, c, h0, h1, h2 => by
    simp only [List.length_cons] at h1
    refine ⟨⟨h0, by omega, h2 x (by simp)⟩, fun _ => rightTk_oks σ hw n xs _ ?_ ?_ fun y hy => h2 y (by simp [hy])⟩
    · show 0 ≤ c.1 + 1
      omega
    · show c.1 + 1 + _ ≤ _
      omega

def rightN (n : Nd) : Bool := (rightRun (0, true) (preN 0 n)).2 && decide ((rightRun (0, true) (preN 0 n)).1 ≤ 20000)

mutual
theorem preN_len (d : Int) : ∀ n : Nd, (preN d n).length = cntN n
  | .mk k g t a ks => by simp only [preN, cntN, List.length_cons, preNs_len (d + 1) ks]; omega
theorem preNs_len (d : Int) : ∀ ns : List Nd, (preNs d ns).length = cntNs ns
  | [] => rfl
  | n :: ns => by simp only [preNs, cntNs, List.length_append, preN_len d n, preNs_len d ns]
end
mutual
theorem preN_kids (d : Int) : ∀ (n : Nd), ∀ x ∈ preN d n, x.2.kids.length ≤ cntN n
  | .mk k g t a ks, x, hx => by
    simp only [preN, List.mem_cons] at hx
    rcases hx with rfl | hx
    · have := kids_le ks
      simp only [Nd.kids, cntN]; omega
    · have := preNs_kids (d + 1) ks x hx
      simp only [cntN]; omega
theorem preNs_kids (d : Int) : ∀ (ns : List Nd), ∀ x ∈ preNs d ns, x.2.kids.length ≤ cntNs ns
  | [], x, hx => by simp [preNs] at hx
  | n :: ns, x, hx => by
    simp only [preNs, List.mem_append] at hx
    simp only [cntNs]
    rcases hx with hx | hx
    · have := preN_kids d n x hx; omega
    · have := preNs_kids d ns x hx; omega
end

theorem right_calls (n : Nd) (hn : cntN n ≤ 1099511627776) (σ : St) : HCalls Try.prog 11 [.agg (encN n)] σ (fun d σ' => d = .bool (rightN n) ∧ σ' = σ) := by
  refine hcalls_body (fn := Try.f11) rfl c11 (by simp [h11]) (by simp [h11, Try.f11]) ?_
  intro M hP hr hnt hnx hwf hlt
  simp only [h11, argEnv]
  refine hgo_sound 40 ?_
  simp -implicitDefEqProofs (maxSteps := 1000000) only [simpS, ↓condJ_true, ↓condJ_false, ↓reduceIte, Nat.reduceEqDiff, Nat.reduceLT, Nat.reduceLeDiff, reduceCtorEq, Nat.reduceAdd, Nat.reduceSub, Option.map_some, if_true, if_false, List.getD_cons_zero, List.getD_cons_succ, List.length_cons, List.length_nil, List.mem_cons, List.not_mem_nil, List.mem_append, List.nil_append, List.cons_append, List.append_nil, List.take_succ_cons, List.take_zero, List.drop_succ_cons, List.drop_zero, List.set_cons_zero, List.set_cons_succ, List.map_cons, List.map_nil, implies_true, forall_const, ne_eq, encN_length]
  refine hx_call (f := .fn 34) rfl (by
    rw [hP]
    exact hcallD_func (down_iter n hn (rightTk σ hwf n) (0, true) (.func 35 [.ptr (σ.next + 1) 0, .ptr (σ.next + 2) 0])
      (rightTk_oks _ _ _ _ _ (by simp) (by rw [preN_len]; simp only; omega) (fun x hx => by have := preN_kids 0 n x hx; omega)) (right_takes _ _ _))) ?_
  rintro d σ2 rfl
  rw [rightTk_run]
  refine hgo_sound 40 ?_
  simp -implicitDefEqProofs (maxSteps := 1000000) only [simpS, ↓condJ_true, ↓condJ_false, ↓reduceIte, Nat.reduceEqDiff, Nat.reduceLT, Nat.reduceLeDiff, reduceCtorEq, Nat.reduceAdd, Nat.reduceSub, Option.map_some, if_true, if_false, List.getD_cons_zero, List.getD_cons_succ, List.length_cons, List.length_nil, List.mem_cons, List.not_mem_nil, List.mem_append, List.nil_append, List.cons_append, List.append_nil, List.take_succ_cons, List.take_zero, List.drop_succ_cons, List.drop_zero, List.set_cons_zero, List.set_cons_succ, List.map_cons, List.map_nil, implies_true, forall_const, ne_eq, rightTk, rightS]
  refine fpost_pure (σ0 := σ) (.inr rfl) (by omega) hwf ((((Ext.refl σ).new _).new _).new _ |>.sub hwf) rfl trivial (by simp only [tupD, look, if_true, ↓reduceIte, D.lt]) ⟨?_, rfl⟩
  simp only [tupD, look, rightN, if_true, ↓reduceIte]
  cases (rightRun (0, true) (preN 0 n)).2 <;> rfl

theorem walk_calls (n : Nd) (σ : St) : HCalls Try.prog 20 [.agg (encN n)] σ (fun d σ' => d = .func 40 [.eptr (encN n) 0] ∧ σ' = σ) := by
  refine hcalls_body (fn := Try.f20) rfl c20 (by simp [h20]) (by simp [h20, Try.f20]) ?_
  intro M hP hr hnt hnx hwf hlt
  simp only [h20, argEnv]
  refine hgo_sound 60 ?_
  simp -implicitDefEqProofs (maxSteps := 1000000) only [simpS, ↓condJ_true, ↓condJ_false, ↓reduceIte, Nat.reduceEqDiff, Nat.reduceLT, Nat.reduceLeDiff, reduceCtorEq, Nat.reduceAdd, Nat.reduceSub, Option.map_some, if_true, if_false, List.getD_cons_zero, List.getD_cons_succ, List.length_cons, List.length_nil, List.mem_cons, List.not_mem_nil, List.mem_append, List.nil_append, List.cons_append, List.append_nil, List.take_succ_cons, List.take_zero, List.drop_succ_cons, List.drop_zero, List.set_cons_zero, List.set_cons_succ, List.map_cons, List.map_nil, implies_true, forall_const, ne_eq]
  refine fpost_frz [(σ.next, encN n)] false (.inr rfl) (by omega) hwf ((Ext.refl σ).new _ |>.sub hwf) rfl trivial (by simp [St.obj_new]) (by simp [tupD, frzD, frzL, lookF, look]) ?_ ⟨rfl, rfl⟩
  simpa [D.lt, ltL] using hlt

theorem leaves_calls (n : Nd) (σ : St) : HCalls Try.prog 22 [.agg (encN n)] σ (fun d σ' => d = .func 41 [.eptr (encN n) 0] ∧ σ' = σ) := by
  refine hcalls_body (fn := Try.f22) rfl c22 (by simp [h22]) (by simp [h22, Try.f22]) ?_
  intro M hP hr hnt hnx hwf hlt
  simp only [h22, argEnv]
  refine hgo_sound 60 ?_
  simp -implicitDefEqProofs (maxSteps := 1000000) only [simpS, ↓condJ_true, ↓condJ_false, ↓reduceIte, Nat.reduceEqDiff, Nat.reduceLT, Nat.reduceLeDiff, reduceCtorEq, Nat.reduceAdd, Nat.reduceSub, Option.map_some, if_true, if_false, List.getD_cons_zero, List.getD_cons_succ, List.length_cons, List.length_nil, List.mem_cons, List.not_mem_nil, List.mem_append, List.nil_append, List.cons_append, List.append_nil, List.take_succ_cons, List.take_zero, List.drop_succ_cons, List.drop_zero, List.set_cons_zero, List.set_cons_succ, List.map_cons, List.map_nil, implies_true, forall_const, ne_eq]
  refine fpost_frz [(σ.next, encN n)] false (.inr rfl) (by omega) hwf ((Ext.refl σ).new _ |>.sub hwf) rfl trivial (by simp [St.obj_new]) (by simp [tupD, frzD, frzL, lookF, look]) ?_ ⟨rfl, rfl⟩
  simpa [D.lt, ltL] using hlt

def walkN (n : Nd) : List (Int × Nd) := if rightN n then preN 0 n else []

theorem walk_iter (n : Nd) (hn : cntN n ≤ 1099511627776) : Iter Try.prog 40 (fun y => [y, .eptr (encN n) 0]) encX (walkN n) := by
  intro tk c y hok hy
  refine hcalls_body (fn := Try.f40) rfl c40 (by simp [h40]) (by simp [h40, Try.f40]) ?_
  intro M hP hr hnt hnx hwf hlt
  simp only [h40, argEnv]
  refine hgo_sound 14 ?_
  simp -implicitDefEqProofs (maxSteps := 1000000) only [simpS, ↓condJ_true, ↓condJ_false, ↓reduceIte, Nat.reduceEqDiff, Nat.reduceLT, Nat.reduceLeDiff, reduceCtorEq, Nat.reduceAdd, Nat.reduceSub, Option.map_some, if_true, if_false, List.getD_cons_zero, List.getD_cons_succ, List.length_cons, List.length_nil, List.mem_cons, List.not_mem_nil, List.mem_append, List.nil_append, List.cons_append, List.append_nil, List.take_succ_cons, List.take_zero, List.drop_succ_cons, List.drop_zero, List.set_cons_zero, List.set_cons_succ, List.map_cons, List.map_nil, implies_true, forall_const, ne_eq, encN_length]
  refine hx_call (f := .fn 11) rfl (by rw [hP]; exact hcallD_func (right_calls n hn _)) ?_
  rintro _ _ ⟨rfl, rfl⟩
  refine hgo_sound 14 ?_
  simp -implicitDefEqProofs (maxSteps := 1000000) only [simpS, ↓condJ_true, ↓condJ_false, ↓reduceIte, Nat.reduceEqDiff, Nat.reduceLT, Nat.reduceLeDiff, reduceCtorEq, Nat.reduceAdd, Nat.reduceSub, Option.map_some, if_true, if_false, List.getD_cons_zero, List.getD_cons_succ, List.length_cons, List.length_nil, List.mem_cons, List.not_mem_nil, List.mem_append, List.nil_append, List.cons_append, List.append_nil, List.take_succ_cons, List.take_zero, List.drop_succ_cons, List.drop_zero, List.set_cons_zero, List.set_cons_succ, List.map_cons, List.map_nil, implies_true, forall_const, ne_eq, encN_length]
  refine ⟨fun hb => ?_, fun hb => ?_⟩
  · have hw : walkN n = preN 0 n := by simp [walkN, hb]
    rw [hw] at hok ⊢
    refine hx_call (f := .fn 34) rfl (by rw [hP]; exact hcallD_func (down_iter n hn tk c y hok hy)) ?_
    rintro d σ2 rfl
    refine hgo_sound 10 ?_
    simp -implicitDefEqProofs (maxSteps := 1000000) only [simpS, ↓condJ_true, ↓condJ_false, ↓reduceIte, Nat.reduceEqDiff, Nat.reduceLT, Nat.reduceLeDiff, reduceCtorEq, Nat.reduceAdd, Nat.reduceSub, Option.map_some, if_true, if_false, List.getD_cons_zero, List.getD_cons_succ, List.length_cons, List.length_nil, List.mem_cons, List.not_mem_nil, List.mem_append, List.nil_append, List.cons_append, List.append_nil, List.take_succ_cons, List.take_zero, List.drop_succ_cons, List.drop_zero, List.set_cons_zero, List.set_cons_succ, List.map_cons, List.map_nil, implies_true, forall_const, ne_eq]
    exact fpost_pure (.inl rfl) (by rw [hnx, tk.next, tk.next]; exact Nat.le_refl _) (tk.wf _) (Sub.refl _) rfl trivial (by simp only [tupD, D.lt, ltL]) rfl
  · have hw : walkN n = [] := by simp [walkN, hb]
    rw [hw]
    exact fpost_pure (.inl rfl) (by rw [hnx]; exact Nat.le_refl _) (tk.wf _) (Sub.refl _) rfl trivial (by simp only [tupD, D.lt, ltL]) rfl

end Go.Hl
