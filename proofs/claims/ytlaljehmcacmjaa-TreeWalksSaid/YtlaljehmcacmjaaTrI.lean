/-
  The reference: Leaves.
-/
import Derived.Test.YtlaljehmcacmjaaTrH
set_option linter.unusedSectionVars false
set_option linter.unusedVariables false
set_option linter.unusedSimpArgs false
set_option maxRecDepth 100000
namespace Go.Hl
open Go Go.Proofs

theorem RL_snoc {g : G} {w : World} {d : D} : ∀ {args : List D} {vs : List Value}, RL g w (args ++ [d]) vs → ∃ us v, vs = us ++ [v] ∧ RL g w args us ∧ R g w d v
  | [], vs, h => by
    simp only [List.nil_append, RL] at h
    obtain ⟨v, us, rfl, hv, rfl⟩ := h
    exact ⟨[], v, rfl, by simp only [RL], hv⟩
  | a :: bs, vs, h => by
    simp only [List.cons_append, RL] at h
    obtain ⟨v, us, rfl, hv, hl⟩ := h
    obtain ⟨us', v', rfl, h1, h2⟩ := RL_snoc hl
    exact ⟨v :: us', v', rfl, by simp only [RL]; exact ⟨v, us', rfl, hv, h1⟩, h2⟩

theorem RL_snoc' {g g' : G} {w : World} {d' : D} (hE : E g w g' w) (hw : GW g w) : ∀ {args : List D} {us : List Value} {v : Value}, RL g w args us → R g' w d' v → RL g' w (args ++ [d']) (us ++ [v])
  | [], us, v, h, hv => by
    simp only [RL] at h
    subst h
    simp only [List.nil_append, RL]
    exact ⟨v, [], rfl, hv, rfl⟩
  | a :: bs, us, v, h, hv => by
    simp only [RL] at h
    obtain ⟨u, us', rfl, h1, h2⟩ := h
    simp only [List.cons_append, RL]
    exact ⟨u, us' ++ [v], rfl, R.mono hE hw _ _ h1, RL_snoc' hE hw h2 hv⟩

/-- A nil slice as the last that is handed over: it gets a token. -/
theorem hcalls_nil {P : Program} {f : Nat} {args : List D} {sz : Nat} {σ : St} {Q : D → St → Prop} (te sz' : Nat) (h : HCalls P f (args ++ [.slice (.tok σ.next) sz' []]) (σ.new (.tok te 0)) Q) : HCalls P f (args ++ [.slice .nil sz []]) σ Q := by
  intro g w vs hrel hl
  obtain ⟨hE, hR⟩ := full_step hrel te
  obtain ⟨us, v, rfl, h1, hv⟩ := RL_snoc hl
  have hv' : R (g.new (.full 0 te)) w (.slice (.tok σ.next) sz' []) v := by
    have h2 := R.mono hE hrel.gw _ _ (R_size (sz' := sz') (fun _ h => by cases h) hv)
    simp only [R] at h2 ⊢
    obtain ⟨A, cap, h3, h4, h5, h6, h7⟩ := h2
    refine ⟨A, cap, h3, h4, h5, ⟨by rw [hrel.next]; exact Nat.lt_succ_self _, fun k hk => ?_⟩, h7⟩
    rw [hrel.next, G.new_same] at hk
    injection hk with hk
    subst hk
    exact ⟨Nat.le_refl _, fun _ => ⟨by rw [show A = none from h6] at h5; simp only [SliceAt] at h5; rw [h5.2]; rfl, fun _ => h6, fun a ha => by rw [h6] at ha; cases ha⟩⟩
  refine NextOk.mono (h _ w _ hR (RL_snoc' hE hrel.gw h1 hv')) ?_
  intro e w' he
  cases e <;> simp only [HRet] at he ⊢
  obtain ⟨d, g', σ', hE', hR', hd, hq⟩ := he
  exact ⟨d, g', σ', E.trans hrel.gw hE hE', hR', hd, hq⟩

structure LvS where
  j : Nat
  ys : List Nd

def leafItems : List (Int × Nd) → List Nd := leavesL

theorem leavesL_append : ∀ a b, leavesL (a ++ b) = leavesL a ++ leavesL b
  | [], b => rfl
  | (d, n) :: a, b => by
    simp only [List.cons_append, leavesL, leavesL_append a b]
    split <;> rfl
theorem leavesL_len : ∀ a, (leavesL a).length ≤ a.length
  | [] => Nat.le_refl _
  | (d, n) :: a => by
    have := leavesL_len a
    simp only [leavesL, List.length_cons]
    split
    · simp only [List.length_cons]; omega
    · omega

theorem rleaves_calls (n : Nd) (hn : cntN n ≤ 1099511627776) (σ : St) : HCalls Try.prog 39 [.agg (encN n)] σ (fun d σ' => d = .slice .no 5 (encNs (leavesL (preN 0 n))) ∧ σ' = σ) := by
  refine hcalls_body (fn := Try.f39) rfl c39 (by simp [h39]) (by simp [h39, Try.f39]) ?_
  intro M hP hr hnt hnx hwf hlt
  simp only [h39, argEnv]
  refine hgo_sound 40 ?_
  simp -implicitDefEqProofs (maxSteps := 1000000) only [simpS, ↓condJ_true, ↓condJ_false, ↓reduceIte, Nat.reduceEqDiff, Nat.reduceLT, Nat.reduceLeDiff, reduceCtorEq, Nat.reduceAdd, Nat.reduceSub, Option.map_some, if_true, if_false, List.getD_cons_zero, List.getD_cons_succ, List.length_cons, List.length_nil, List.mem_cons, List.not_mem_nil, List.mem_append, List.nil_append, List.cons_append, List.append_nil, List.take_succ_cons, List.take_zero, List.drop_succ_cons, List.drop_zero, List.set_cons_zero, List.set_cons_succ, List.map_cons, List.map_nil, implies_true, forall_const, ne_eq, encN_length, encN_take]
  refine hx_call (f := .fn 18) rfl (by rw [hP]; exact hcallD_func (hcalls_nil (args := [_, _]) 47 6 (rwalk_calls _ n (Nat.le_refl _) 0 [] _ _ (Int.le_refl _) (by omega) (by simp only [List.length_nil]; omega) (by simp -implicitDefEqProofs (maxSteps := 1000000) only [simpS, ↓condJ_true, ↓condJ_false, ↓reduceIte, Nat.reduceEqDiff, Nat.reduceLT, Nat.reduceLeDiff, reduceCtorEq, Nat.reduceAdd, Nat.reduceSub, Option.map_some, if_true, if_false, List.getD_cons_zero, List.getD_cons_succ, List.length_cons, List.length_nil, List.mem_cons, List.not_mem_nil, List.mem_append, List.nil_append, List.cons_append, List.append_nil, List.take_succ_cons, List.take_zero, List.drop_succ_cons, List.drop_zero, List.set_cons_zero, List.set_cons_succ, List.map_cons, List.map_nil, implies_true, forall_const, ne_eq])))) ?_
  rintro _ _ ⟨rfl, rfl⟩
  refine hgo_sound 40 ?_
  simp -implicitDefEqProofs (maxSteps := 1000000) only [simpS, ↓condJ_true, ↓condJ_false, ↓reduceIte, Nat.reduceEqDiff, Nat.reduceLT, Nat.reduceLeDiff, reduceCtorEq, Nat.reduceAdd, Nat.reduceSub, Option.map_some, if_true, if_false, List.getD_cons_zero, List.getD_cons_succ, List.length_cons, List.length_nil, List.mem_cons, List.not_mem_nil, List.mem_append, List.nil_append, List.cons_append, List.append_nil, List.take_succ_cons, List.take_zero, List.drop_succ_cons, List.drop_zero, List.set_cons_zero, List.set_cons_succ, List.map_cons, List.map_nil, implies_true, forall_const, ne_eq]
  refine hx_full (t := 3) 29 5 rfl ?_ (fun _ e => by cases e) (fun _ e => by cases e)
  simp -implicitDefEqProofs (maxSteps := 1000000) only [simpS, ↓condJ_true, ↓condJ_false, ↓reduceIte, Nat.reduceEqDiff, Nat.reduceLT, Nat.reduceLeDiff, reduceCtorEq, Nat.reduceAdd, Nat.reduceSub, Option.map_some, if_true, if_false, List.getD_cons_zero, List.getD_cons_succ, List.length_cons, List.length_nil, List.mem_cons, List.not_mem_nil, List.mem_append, List.nil_append, List.cons_append, List.append_nil, List.take_succ_cons, List.take_zero, List.drop_succ_cons, List.drop_zero, List.set_cons_zero, List.set_cons_succ, List.map_cons, List.map_nil, implies_true, forall_const, ne_eq]
  refine hx_know_code fun hw hl hn1 => ?_
  have hwalk := preN_len 0 n
  have hT : ∀ ys : List Nd, ((((σ.new (.box (encN n))).new (.tok 47 (preN 0 n).length))).new (.tok 29 ys.length)).wf := fun ys => ((hwf.box (encN_lt _ n)).tok).tok
  refine hx_loop (S := LvS) (fun s => [(3, .slice (.tok (σ.next + 2)) 5 (encNs s.ys)), (4, .slice (.tok (σ.next + 1)) 6 ((preN 0 n).map stp)), (5, .int .i64 s.j)]) (fun s => ((σ.new (.box (encN n))).new (.tok 47 (preN 0 n).length)).new (.tok 29 s.ys.length))
    (fun s => s.j ≤ (preN 0 n).length ∧ s.ys ++ leavesL ((preN 0 n).drop s.j) = leavesL (preN 0 n)) (fun s => (preN 0 n).length - s.j) ⟨0, []⟩
    ⟨Nat.zero_le _, by simp only [List.drop_zero, List.nil_append]⟩ (fun _ _ h => by rw [hr] at h; cases h) ?_ ?_
  · exact Drop.all hw (by rw [hnx]; show σ.next ≤ σ.next + 3; omega) ⟨⟨rfl, ⟨show σ.next + 2 < σ.next + 3 by omega, trivial⟩⟩, ⟨rfl, ⟨show σ.next + 1 < σ.next + 3 by omega, map_stp_lt _ _⟩⟩, ⟨rfl, trivial⟩, trivial⟩
  rintro ⟨j, ys⟩ ⟨j1, j4⟩
  simp only at j1 j4 ⊢
  have hlen := congrArg List.length j4
  have hll := leavesL_len (preN 0 n)
  simp only [List.length_append] at hlen
  have hjc : ((j : Int) < (((preN 0 n).map stp).length : Int)) = (j < (preN 0 n).length) := by rw [map_stp_len]; simp
  by_cases hj : j < (preN 0 n).length
  · have hjd : decide (((j : Nat) : Int) < (((preN 0 n).map stp).length : Int)) = true := by simp [hjc, hj]
    have hjp : ((j : Int) < (((preN 0 n).map stp).length : Int)) := by rw [map_stp_len]; omega
    have hget : ((preN 0 n).map stp).getD j [] = stp (preN 0 n)[j] := by simp [List.getD, hj]
    have hdrop : (preN 0 n).drop j = (preN 0 n)[j] :: (preN 0 n).drop (j + 1) := List.drop_eq_getElem_cons hj
    rw [hdrop] at j4 hlen
    generalize hx : (preN 0 n)[j] = x at *
    obtain ⟨dd, m⟩ := x
    simp only [leavesL] at j4 hlen
    have hwr : IntKind.i64.wrap ((j : Int) + 1) = ((j + 1 : Nat) : Int) := by rw [IntWalk.i64_in _ (by omega)]; rfl
    have hb1 : (ys.length + 1) * 72 ≤ 140737488355328 := by omega
    have hb2 : ys.length + 1 ≤ 9223372036854775807 := by omega
    refine hgo_sound 60 ?_
    simp -implicitDefEqProofs (maxSteps := 1000000) only [simpS, ↓condJ_true, ↓condJ_false, ↓reduceIte, Nat.reduceEqDiff, Nat.reduceLT, Nat.reduceLeDiff, reduceCtorEq, Nat.reduceAdd, Nat.reduceSub, Option.map_some, if_true, if_false, List.getD_cons_zero, List.getD_cons_succ, List.length_cons, List.length_nil, List.mem_cons, List.not_mem_nil, List.mem_append, List.nil_append, List.cons_append, List.append_nil, List.take_succ_cons, List.take_zero, List.drop_succ_cons, List.drop_zero, List.set_cons_zero, List.set_cons_succ, List.map_cons, List.map_nil, implies_true, forall_const, ne_eq, hjd, hjp, Int.toNat_natCast, Int.natCast_nonneg, hget, stp, encN_length, encN_take, encN_kind, hwr]
    refine ⟨fun hb => ⟨⟨(encNs_length _).symm, by rw [encNs_length]; exact hb1, by rw [encNs_length]; omega⟩, fun hw2 hl2 hn2 => ?_⟩, fun hb hw2 hl2 hn2 => ?_⟩
    · have hk : m.kind = 1 := by simpa using hb
      rw [if_pos hk] at j4
      have hen : encNs ys ++ [encN m] = encNs (ys ++ [m]) := by simp only [encNs_eq, List.map_append, List.map_cons, List.map_nil]
      refine ⟨⟨j + 1, ys ++ [m]⟩, ⟨by simp only; omega, by simp only [List.append_assoc]; exact j4⟩, by simp only; omega, ?_⟩
      simp only [hen, List.length_append, List.length_singleton] at hw2 ⊢
      exact Drop.all hw2 hn2 ⟨⟨rfl, by have := hl2 3; simp only [if_true, hen] at this; exact this⟩, ⟨rfl, by have := hl2 4; exact this⟩, ⟨rfl, trivial⟩, trivial⟩
    · have hk : ¬ m.kind = 1 := by simpa using hb
      rw [if_neg hk] at j4
      refine ⟨⟨j + 1, ys⟩, ⟨by simp only; omega, j4⟩, by simp only; omega, ?_⟩
      exact Drop.all hw2 hn2 ⟨⟨rfl, by have := hl2 3; exact this⟩, ⟨rfl, by have := hl2 4; exact this⟩, ⟨rfl, trivial⟩, trivial⟩
  · have hjd : decide (((j : Nat) : Int) < (((preN 0 n).map stp).length : Int)) = false := by simp [hjc, hj]
    have hdrop : (preN 0 n).drop j = [] := List.drop_eq_nil_of_le (by omega)
    rw [hdrop] at j4
    simp only [leavesL, List.append_nil] at j4
    refine hgo_sound 60 ?_
    simp -implicitDefEqProofs (maxSteps := 1000000) only [simpS, ↓condJ_true, ↓condJ_false, ↓reduceIte, Nat.reduceEqDiff, Nat.reduceLT, Nat.reduceLeDiff, reduceCtorEq, Nat.reduceAdd, Nat.reduceSub, Option.map_some, if_true, if_false, List.getD_cons_zero, List.getD_cons_succ, List.length_cons, List.length_nil, List.mem_cons, List.not_mem_nil, List.mem_append, List.nil_append, List.cons_append, List.append_nil, List.take_succ_cons, List.take_zero, List.drop_succ_cons, List.drop_zero, List.set_cons_zero, List.set_cons_succ, List.map_cons, List.map_nil, implies_true, forall_const, ne_eq, hjd]
    rw [← j4]
    exact fpost_strip (σ0 := σ) (ds := [.slice (.tok (σ.next + 2)) 5 (encNs ys)]) (Wk.refl _) (.inr rfl) (by rw [hnx]; exact Nat.le_refl _) hwf ((((Ext.refl σ).new _).new _).new _ |>.sub hwf) rfl trivial (by simp only [tupD, frzD, if_true, D.lt, Own.lt]; exact ⟨trivial, encNs_lt _ _⟩) ⟨rfl, rfl⟩

end Go.Hl
