/-
  The law TreeWalks: the walk itself.
-/
import Derived.Test.YtlaljehmcacmjaaTrAk
import Derived.Test.YtlaljehmcacmjaaTrD
set_option linter.unusedSectionVars false
set_option linter.unusedVariables false
set_option linter.unusedSimpArgs false
set_option maxRecDepth 100000
namespace Go.Hl
open Go Go.Proofs

/-- What stands behind the walk. -/
def walksB : HC := tlC (tlC (tlC (tlC walksA)))

def wkS2 (σ : St) (n : Nd) (s k : Int) (r : Bool) (W : List (Int × Nd)) : St := ((wkS σ n s r W).new (.box [.int .i64 k]))
def wkE2 (σ : St) (z : Int) (P : List Int) : Env := [(1, .int .i64 z), (3, .ptr σ.next 0), (5, .ptr (σ.next + 1) 0), (6, .ptr (σ.next + 2) 0), (9, .ptr (σ.next + 4) 0), (10, .slice .no 1 (encK P)), (13, .ptr (σ.next + 6) 0)]

theorem wkS_next (σ : St) (n : Nd) (s : Int) (r : Bool) (W : List (Int × Nd)) : (wkS σ n s r W).next = σ.next + 6 := rfl
theorem wkS_glob (σ : St) (n : Nd) (s : Int) (r : Bool) (W : List (Int × Nd)) : (wkS σ n s r W).glob = σ.glob := rfl
theorem wkS_ext (σ : St) (n : Nd) (s : Int) (r : Bool) (W : List (Int × Nd)) : Ext σ (wkS σ n s r W) := ((((((Ext.refl σ).new _).new _).new _).new _).new _).new _
theorem wkS_wf {σ : St} (hw : σ.wf) (n : Nd) (s : Int) (r : Bool) (W : List (Int × Nd)) : (wkS σ n s r W).wf := by
  refine St.wf.new2 ((((hw.box (encN_lt _ n)).box (cs := [.int .i64 s]) ⟨trivial, trivial⟩).box (cs := [.bool r]) ⟨trivial, trivial⟩).box (encN_lt _ n)) ?_ trivial
  refine ⟨⟨?_, map_stp_lt _ _⟩, trivial⟩
  show σ.next + 5 < σ.next + 4 + 2
  omega
theorem wkS_0 (σ : St) (n : Nd) (s : Int) (r : Bool) (W : List (Int × Nd)) : (wkS σ n s r W).obj σ.next = some (.bx none (encN n)) := by simp only [wkS, simpS, ↓condJ_true, ↓condJ_false, ↓reduceIte, Nat.reduceEqDiff, Nat.reduceLT, Nat.reduceLeDiff, reduceCtorEq, Nat.reduceAdd, Nat.reduceSub, Option.map_some, if_true, if_false, List.getD_cons_zero, List.getD_cons_succ, List.length_cons, List.length_nil, List.mem_cons, List.not_mem_nil, List.mem_append, List.nil_append, List.cons_append, List.append_nil, List.take_succ_cons, List.take_zero, List.drop_succ_cons, List.drop_zero, List.set_cons_zero, List.set_cons_succ, List.map_cons, List.map_nil, implies_true, forall_const, ne_eq]
theorem wkS_1 (σ : St) (n : Nd) (s : Int) (r : Bool) (W : List (Int × Nd)) : (wkS σ n s r W).obj (σ.next + 1) = some (.bx none [.int .i64 s]) := by simp only [wkS, simpS, ↓condJ_true, ↓condJ_false, ↓reduceIte, Nat.reduceEqDiff, Nat.reduceLT, Nat.reduceLeDiff, reduceCtorEq, Nat.reduceAdd, Nat.reduceSub, Option.map_some, if_true, if_false, List.getD_cons_zero, List.getD_cons_succ, List.length_cons, List.length_nil, List.mem_cons, List.not_mem_nil, List.mem_append, List.nil_append, List.cons_append, List.append_nil, List.take_succ_cons, List.take_zero, List.drop_succ_cons, List.drop_zero, List.set_cons_zero, List.set_cons_succ, List.map_cons, List.map_nil, implies_true, forall_const, ne_eq]
theorem wkS_2 (σ : St) (n : Nd) (s : Int) (r : Bool) (W : List (Int × Nd)) : (wkS σ n s r W).obj (σ.next + 2) = some (.bx none [.bool r]) := by simp only [wkS, simpS, ↓condJ_true, ↓condJ_false, ↓reduceIte, Nat.reduceEqDiff, Nat.reduceLT, Nat.reduceLeDiff, reduceCtorEq, Nat.reduceAdd, Nat.reduceSub, Option.map_some, if_true, if_false, List.getD_cons_zero, List.getD_cons_succ, List.length_cons, List.length_nil, List.mem_cons, List.not_mem_nil, List.mem_append, List.nil_append, List.cons_append, List.append_nil, List.take_succ_cons, List.take_zero, List.drop_succ_cons, List.drop_zero, List.set_cons_zero, List.set_cons_succ, List.map_cons, List.map_nil, implies_true, forall_const, ne_eq]
theorem wkS_4 (σ : St) (n : Nd) (s : Int) (r : Bool) (W : List (Int × Nd)) : (wkS σ n s r W).obj (σ.next + 4) = some (.bx none [.slice (.tok (σ.next + 5)) 6 (W.map stp)]) := by simp only [wkS, simpS, ↓condJ_true, ↓condJ_false, ↓reduceIte, Nat.reduceEqDiff, Nat.reduceLT, Nat.reduceLeDiff, reduceCtorEq, Nat.reduceAdd, Nat.reduceSub, Option.map_some, if_true, if_false, List.getD_cons_zero, List.getD_cons_succ, List.length_cons, List.length_nil, List.mem_cons, List.not_mem_nil, List.mem_append, List.nil_append, List.cons_append, List.append_nil, List.take_succ_cons, List.take_zero, List.drop_succ_cons, List.drop_zero, List.set_cons_zero, List.set_cons_succ, List.map_cons, List.map_nil, implies_true, forall_const, ne_eq]
theorem wkS_p1 (σ : St) (n : Nd) (s t : Int) (r : Bool) (W : List (Int × Nd)) : (wkS σ n s r W).put (σ.next + 1) (.bx none [.int .i64 t]) = wkS σ n t r W := by simp only [wkS, simpS, ↓condJ_true, ↓condJ_false, ↓reduceIte, Nat.reduceEqDiff, Nat.reduceLT, Nat.reduceLeDiff, reduceCtorEq, Nat.reduceAdd, Nat.reduceSub, Option.map_some, if_true, if_false, List.getD_cons_zero, List.getD_cons_succ, List.length_cons, List.length_nil, List.mem_cons, List.not_mem_nil, List.mem_append, List.nil_append, List.cons_append, List.append_nil, List.take_succ_cons, List.take_zero, List.drop_succ_cons, List.drop_zero, List.set_cons_zero, List.set_cons_succ, List.map_cons, List.map_nil, implies_true, forall_const, ne_eq]
theorem wkS_p2 (σ : St) (n : Nd) (s : Int) (r q : Bool) (W : List (Int × Nd)) : (wkS σ n s r W).put (σ.next + 2) (.bx none [.bool q]) = wkS σ n s q W := by simp only [wkS, simpS, ↓condJ_true, ↓condJ_false, ↓reduceIte, Nat.reduceEqDiff, Nat.reduceLT, Nat.reduceLeDiff, reduceCtorEq, Nat.reduceAdd, Nat.reduceSub, Option.map_some, if_true, if_false, List.getD_cons_zero, List.getD_cons_succ, List.length_cons, List.length_nil, List.mem_cons, List.not_mem_nil, List.mem_append, List.nil_append, List.cons_append, List.append_nil, List.take_succ_cons, List.take_zero, List.drop_succ_cons, List.drop_zero, List.set_cons_zero, List.set_cons_succ, List.map_cons, List.map_nil, implies_true, forall_const, ne_eq]

/-- Where it has been found out. -/
theorem wk_fin {M : Md} {σ : St} (hnx : M.gS.next = σ.next) (hwf : σ.wf) {e : Env} {σ' : St} (he : Ext σ σ') (h6 : look e 6 = .ptr (σ.next + 2) 0) (ho : σ'.obj (σ.next + 2) = some (.bx none [.bool true])) : wkPost M .ret e σ' :=
  fpost_pure (σ0 := σ) (.inr rfl) (by rw [hnx]; exact Nat.le_refl _) hwf (he.sub hwf) (ds := [.bool true]) (resD_cell (d := .bool true) h6 ho resD_nil) ⟨by decide, trivial⟩ trivial rfl

def wkStep (st : Int) (k : Int) (x : Int × Nd) : Int × Option HC := (k + 1, if k + 1 = st then some (.exit 2) else none)

theorem wkStep_run (st : Int) : ∀ (xs : List (Int × Nd)) (k : Int), k < st → rngRun (wkStep st) k xs = (min st (k + xs.length), if st ≤ k + xs.length then some (.exit 2) else none)
  | [], k, h => by
    simp only [rngRun, List.length_nil, Int.ofNat_eq_natCast, Int.natCast_zero, Int.add_zero]
    rw [if_neg (by omega)]
    congr 1
    omega
  | x :: xs, k, h => by
    simp only [rngRun, wkStep]
    by_cases e : k + 1 = st
    · rw [if_pos e]
      simp only [List.length_cons]
      rw [if_pos (by omega)]
      congr 1
      omega
    · rw [if_neg e]
      simp only
      rw [wkStep_run st xs (k + 1) (by omega)]
      simp only [List.length_cons]
      have : k + 1 + (xs.length : Int) = k + ((xs.length + 1 : Nat) : Int) := by omega
      rw [this]

theorem wkStep_oks (W : List (Int × Nd)) (st : Int) : ∀ (xs : List (Int × Nd)) (j : Nat), W.drop j = xs → W.length ≤ 1099511627776 →
    rngOks (fun (k : Int) (x : Int × Nd) => ∃ j : Nat, k = j ∧ W[j]? = some x) (wkStep st) (j : Int) xs
  | [], j, _, _ => trivial
  | x :: xs, j, h, hl => by
    have hx : W[j]? = some x := by
      have := congrArg (fun l => l[0]?) h
      simpa using this
    refine ⟨⟨j, rfl, hx⟩, fun _ => ?_⟩
    have := wkStep_oks W st xs (j + 1) (by rw [← List.drop_drop, h]; rfl) hl
    exact this

structure WaS where
  j : Nat

set_option maxHeartbeats 4000000 in
theorem walks1 (n : Nd) (z s : Int) (σ : St)
    (rest : ∀ M, WkH M σ n → HX M (wkPost M) [.code walksB] (wkE2 σ z (pathN z n)) (wkS2 σ n (stopV s) (min (stopV s) (walkN n).length) false (walkN n)).bump)
    (M : Md) (H : WkH M σ n) : HX M (wkPost M) [.code walksA] (wkE σ z (pathN z n)) (wkS σ n s false (walkN n)) := by
  have hW : (walkN n).length ≤ 2000 := by
    have := H.cnt
    unfold walkN
    split
    · rw [preN_len]; exact this
    · simp
  have hok : ∀ x ∈ walkN n, OkNd x.2 := fun x hx => okNd H.fit H.sum H.cnt x (walk_sub x hx)
  have hwfS : ∀ s r, (wkS σ n s r (walkN n)).wf := fun s r => wkS_wf H.hwf _ _ _ _
  have hlen := map_stp_len (walkN n)
  generalize hPe : pathN z n = P at *
  simp only [walksA, h4, tlC, wkE]
  refine hgo_sound 9 ?_
  simp -implicitDefEqProofs (maxSteps := 1000000) only [simpS, ↓condJ_true, ↓condJ_false, ↓reduceIte, Nat.reduceEqDiff, Nat.reduceLT, Nat.reduceLeDiff, reduceCtorEq, Nat.reduceAdd, Nat.reduceSub, Option.map_some, if_true, if_false, List.getD_cons_zero, List.getD_cons_succ, List.length_cons, List.length_nil, List.mem_cons, List.not_mem_nil, List.mem_append, List.nil_append, List.cons_append, List.append_nil, List.take_succ_cons, List.take_zero, List.drop_succ_cons, List.drop_zero, List.set_cons_zero, List.set_cons_succ, List.map_cons, List.map_nil, implies_true, forall_const, ne_eq, wkS_4]
  refine hx_know_code fun hw hl1 hn1 => ?_
  refine hx_loop (S := WaS) (fun t => [(1, .int .i64 z), (3, .ptr σ.next 0), (5, .ptr (σ.next + 1) 0), (6, .ptr (σ.next + 2) 0), (9, .ptr (σ.next + 4) 0), (10, .slice .no 1 (encK P)), (39, .slice (.tok (σ.next + 5)) 6 ((walkN n).map stp)), (40, .int .i64 (((walkN n).map stp).length : Int)), (41, .int .i64 t.j)])
    (fun t => wkS σ n s false (walkN n)) (fun t => t.j ≤ (walkN n).length) (fun t => (walkN n).length - t.j) ⟨0⟩ (Nat.zero_le _) (fun _ _ h => by rw [H.hr] at h; cases h) ?_ ?_
  · refine Drop.all hw hn1 ⟨⟨rfl, trivial⟩, ⟨rfl, ?_⟩, ⟨rfl, ?_⟩, ⟨rfl, ?_⟩, ⟨rfl, ?_⟩, ⟨rfl, ⟨trivial, encK_lt _ _⟩⟩, ⟨rfl, ⟨?_, map_stp_lt _ _⟩⟩, ⟨rfl, trivial⟩, ⟨rfl, trivial⟩, trivial⟩
    all_goals (simp only [D.lt, Own.lt, wkS_next]; omega)
  rintro ⟨j⟩ j1
  simp only at j1 ⊢
  have hjc : ((j : Int) < (((walkN n).map stp).length : Int)) = (j < (walkN n).length) := by rw [hlen]; simp
  by_cases hj : j < (walkN n).length
  · have hjd : decide (((j : Nat) : Int) < (((walkN n).map stp).length : Int)) = true := by simp [hjc, hj]
    have hjp : ((j : Int) < (((walkN n).map stp).length : Int)) := by rw [hlen]; omega
    have hget : ((walkN n).map stp).getD j [] = stp (walkN n)[j] := by simp [List.getD, hj]
    generalize hx : (walkN n)[j] = x at *
    obtain ⟨dd, x⟩ := x
    have hwr : IntKind.i64.wrap ((j : Int) + 1) = ((j + 1 : Nat) : Int) := by rw [IntWalk.i64_in _ (by omega)]; rfl
    refine hgo_sound 60 ?_
    simp -implicitDefEqProofs (maxSteps := 1000000) only [simpS, ↓condJ_true, ↓condJ_false, ↓reduceIte, Nat.reduceEqDiff, Nat.reduceLT, Nat.reduceLeDiff, reduceCtorEq, Nat.reduceAdd, Nat.reduceSub, Option.map_some, if_true, if_false, List.getD_cons_zero, List.getD_cons_succ, List.length_cons, List.length_nil, List.mem_cons, List.not_mem_nil, List.mem_append, List.nil_append, List.cons_append, List.append_nil, List.take_succ_cons, List.take_zero, List.drop_succ_cons, List.drop_zero, List.set_cons_zero, List.set_cons_succ, List.map_cons, List.map_nil, implies_true, forall_const, ne_eq, hjd, hjp, Int.toNat_natCast, Int.natCast_nonneg, hget, stp, encN_length, encN_take, encN_at, wkS_2, wkS_next, hwr]
    refine ⟨fun hb => ?_, fun hb hw2 hl2 hn2 => ?_⟩
    · rw [wkS_p2]
      exact wk_fin H.hnx H.hwf ((wkS_ext _ _ _ _ _).new _) rfl (by simp -implicitDefEqProofs (maxSteps := 1000000) only [simpS, ↓condJ_true, ↓condJ_false, ↓reduceIte, Nat.reduceEqDiff, Nat.reduceLT, Nat.reduceLeDiff, reduceCtorEq, Nat.reduceAdd, Nat.reduceSub, Option.map_some, if_true, if_false, List.getD_cons_zero, List.getD_cons_succ, List.length_cons, List.length_nil, List.mem_cons, List.not_mem_nil, List.mem_append, List.nil_append, List.cons_append, List.append_nil, List.take_succ_cons, List.take_zero, List.drop_succ_cons, List.drop_zero, List.set_cons_zero, List.set_cons_succ, List.map_cons, List.map_nil, implies_true, forall_const, ne_eq, wkS_2, wkS_next])
    · refine ⟨⟨j + 1⟩, by simp only; omega, by simp only; omega, ?_⟩
      refine Drop.allS (((Ext.refl _).new _).sub (hwfS _ _)) (hwfS _ _) hn1 ⟨⟨rfl, trivial⟩, ⟨rfl, ?_⟩, ⟨rfl, ?_⟩, ⟨rfl, ?_⟩, ⟨rfl, ?_⟩, ⟨rfl, ⟨trivial, encK_lt _ _⟩⟩, ⟨rfl, ⟨?_, map_stp_lt _ _⟩⟩, ⟨rfl, trivial⟩, ⟨rfl, trivial⟩, trivial⟩
      all_goals (simp only [D.lt, Own.lt, wkS_next]; omega)
  · have hjd : decide (((j : Nat) : Int) < (((walkN n).map stp).length : Int)) = false := by simp [hjc, hj]
    have hst : IntKind.i64.wrap (1 + IntKind.i64.wrap ((IntKind.u64.wrap s).tmod 60)) = stopV s := rfl
    refine hgo_sound 60 ?_
    simp -implicitDefEqProofs (maxSteps := 1000000) only [simpS, ↓condJ_true, ↓condJ_false, ↓reduceIte, Nat.reduceEqDiff, Nat.reduceLT, Nat.reduceLeDiff, reduceCtorEq, Nat.reduceAdd, Nat.reduceSub, Option.map_some, if_true, if_false, List.getD_cons_zero, List.getD_cons_succ, List.length_cons, List.length_nil, List.mem_cons, List.not_mem_nil, List.mem_append, List.nil_append, List.cons_append, List.append_nil, List.take_succ_cons, List.take_zero, List.drop_succ_cons, List.drop_zero, List.set_cons_zero, List.set_cons_succ, List.map_cons, List.map_nil, implies_true, forall_const, ne_eq, hjd, wkS_0, wkS_1, wkS_p1, wkS_next, encN_length, encN_take, hst, Int.reduceEq]
    refine hx_call (f := .fn 20) rfl (by rw [H.hP]; exact hcallD_func (walk_calls n _)) ?_
    rintro _ σ2 ⟨rfl, h⟩
    subst σ2
    refine hgo_sound 6 ?_
    simp -implicitDefEqProofs (maxSteps := 1000000) only [simpS, ↓condJ_true, ↓condJ_false, ↓reduceIte, Nat.reduceEqDiff, Nat.reduceLT, Nat.reduceLeDiff, reduceCtorEq, Nat.reduceAdd, Nat.reduceSub, Option.map_some, if_true, if_false, List.getD_cons_zero, List.getD_cons_succ, List.length_cons, List.length_nil, List.mem_cons, List.not_mem_nil, List.mem_append, List.nil_append, List.cons_append, List.append_nil, List.take_succ_cons, List.take_zero, List.drop_succ_cons, List.drop_zero, List.set_cons_zero, List.set_cons_succ, List.map_cons, List.map_nil, implies_true, forall_const, ne_eq]
    refine hx_know_code fun hw2 hl2 hn2 => ?_
    have hS : ∀ k, (wkS2 σ n (stopV s) k false (walkN n)).wf := fun k => (hwfS _ _).box (cs := [.int .i64 k]) ⟨trivial, trivial⟩
    have hsp := stopV_pos s
    refine hx_range_fold (fn := 40) (caps := [.eptr (encN n) 0]) (xs := walkN n) (enc := encX) (fun k => wkS2 σ n (stopV s) k false (walkN n))
      (fun (k : Int) (x : Int × Nd) => ∃ j : Nat, k = j ∧ (walkN n)[j]? = some x) (wkStep (stopV s)) 0 rfl (by rw [H.hP]; rfl) (fun _ _ h => by rw [H.hr] at h; cases h) (by rw [H.hP]; exact walk_iter n (by have := H.cnt; omega)) rfl
      (fun c => rfl) (fun c c' => rfl) hS hl2 (wkStep_oks _ _ _ 0 rfl (by omega)) (fun _ => rfl) (by rw [H.hnt]; decide) ?_ ?_
    · rintro k ⟨dd, x⟩ τ ⟨jj, rfl, hk⟩ hle hτ hgl M' hP' hnt2 hr' hnx' hwf' hlt'
      have hnt3 : M'.nt = 159 := by rw [hnt2, H.hnt]
      simp only [wkS2, wkS_next, St.next_new, Nat.add_assoc, Nat.reduceAdd] at hle hl2 ⊢
      simp only [encX, putsE]
      have hjl : jj < (walkN n).length := (List.getElem?_eq_some_iff.1 hk).1
      have hjd : decide ((jj : Int) ≥ (((walkN n).map stp).length : Int)) = false := by rw [hlen]; simp; omega
      have hjp : ((jj : Int) < (((walkN n).map stp).length : Int)) := by rw [hlen]; omega
      have hget : ((walkN n).map stp).getD jj [] = stp (dd, x) := by simp [List.getD, hk]
      have hokx := hok _ (List.mem_of_getElem? hk)
      have n1 : ¬ τ.next < σ.next + 8 := by omega
      have n2 : ¬ τ.next + 1 < σ.next + 8 := by omega
      refine hgo_sound 14 ?_
      simp -implicitDefEqProofs (maxSteps := 1000000) only [simpS, ↓condJ_true, ↓condJ_false, ↓reduceIte, Nat.reduceEqDiff, Nat.reduceLT, Nat.reduceLeDiff, reduceCtorEq, Nat.reduceAdd, Nat.reduceSub, Option.map_some, if_true, if_false, List.getD_cons_zero, List.getD_cons_succ, List.length_cons, List.length_nil, List.mem_cons, List.not_mem_nil, List.mem_append, List.nil_append, List.cons_append, List.append_nil, List.take_succ_cons, List.take_zero, List.drop_succ_cons, List.drop_zero, List.set_cons_zero, List.set_cons_succ, List.map_cons, List.map_nil, implies_true, forall_const, ne_eq, encN_length, encN_take, wkS_next, hle, n1]
      have hwr : IntKind.i64.wrap ((jj : Int) + 1) = (jj : Int) + 1 := IntWalk.i64_in _ (by omega)
      refine hgo_sound 14 ?_
      simp -implicitDefEqProofs (maxSteps := 1000000) only [simpS, ↓condJ_true, ↓condJ_false, ↓reduceIte, Nat.reduceEqDiff, Nat.reduceLT, Nat.reduceLeDiff, reduceCtorEq, Nat.reduceAdd, Nat.reduceSub, Option.map_some, if_true, if_false, List.getD_cons_zero, List.getD_cons_succ, List.length_cons, List.length_nil, List.mem_cons, List.not_mem_nil, List.mem_append, List.nil_append, List.cons_append, List.append_nil, List.take_succ_cons, List.take_zero, List.drop_succ_cons, List.drop_zero, List.set_cons_zero, List.set_cons_succ, List.map_cons, List.map_nil, implies_true, forall_const, ne_eq, encN_length, encN_take, wkS_next, hle, n1]
      refine hx_drawgo 1 ?_
      simp -implicitDefEqProofs (maxSteps := 3000000) only [drawS, List.map_cons, List.map_nil, List.getElem?_cons_zero, List.getElem?_cons_succ, List.getElem?_nil, simpS, ↓condJ_true, ↓condJ_false, ↓reduceIte, Nat.reduceEqDiff, Nat.reduceLT, Nat.reduceLeDiff, reduceCtorEq, Nat.reduceAdd, Nat.reduceSub, Option.map_some, if_true, if_false, List.getD_cons_zero, List.getD_cons_succ, List.length_cons, List.length_nil, List.mem_cons, List.not_mem_nil, List.mem_append, List.nil_append, List.cons_append, List.append_nil, List.take_succ_cons, List.take_zero, List.drop_succ_cons, List.drop_zero, List.set_cons_zero, List.set_cons_succ, List.map_cons, List.map_nil, implies_true, forall_const, ne_eq, hnt3, encN_length, encN_take, wkS_0, wkS_1, wkS_2, wkS_4, wkS_next, hle, n1, n2, hget, stp, hjd, hjp, hwr, Int.toNat_natCast, Int.natCast_nonneg, bne_self_eq_false, beq_self_eq_true]
      refine hd_call (i := 20) (f := .fn 21) (by simp -implicitDefEqProofs (maxSteps := 3000000) only [drawS, List.map_cons, List.map_nil, List.getElem?_cons_zero, List.getElem?_cons_succ, List.getElem?_nil, simpS, ↓condJ_true, ↓condJ_false, ↓reduceIte, Nat.reduceEqDiff, Nat.reduceLT, Nat.reduceLeDiff, reduceCtorEq, Nat.reduceAdd, Nat.reduceSub, Option.map_some, if_true, if_false, List.getD_cons_zero, List.getD_cons_succ, List.length_cons, List.length_nil, List.mem_cons, List.not_mem_nil, List.mem_append, List.nil_append, List.cons_append, List.append_nil, List.take_succ_cons, List.take_zero, List.drop_succ_cons, List.drop_zero, List.set_cons_zero, List.set_cons_succ, List.map_cons, List.map_nil, implies_true, forall_const, ne_eq, hnt3, encN_length, encN_take, wkS_0, wkS_1, wkS_2, wkS_4, wkS_next, hle, n1, n2, hget, stp, hjd, hjp, hwr, Int.toNat_natCast, Int.natCast_nonneg, bne_self_eq_false, beq_self_eq_true]) (by rfl) (by rfl) rfl (by rfl) (by rw [hP', H.hP]; exact hcallD_func (is_calls x x hokx.fit hokx.cnt _)) ?_
      rintro _ σ2 ⟨rfl, h⟩
      subst σ2
      rw [hokx.is_]
      refine hdgo_sound 1 ?_
      simp -implicitDefEqProofs (maxSteps := 3000000) only [drawS, List.map_cons, List.map_nil, List.getElem?_cons_zero, List.getElem?_cons_succ, List.getElem?_nil, simpS, ↓condJ_true, ↓condJ_false, ↓reduceIte, Nat.reduceEqDiff, Nat.reduceLT, Nat.reduceLeDiff, reduceCtorEq, Nat.reduceAdd, Nat.reduceSub, Option.map_some, if_true, if_false, List.getD_cons_zero, List.getD_cons_succ, List.length_cons, List.length_nil, List.mem_cons, List.not_mem_nil, List.mem_append, List.nil_append, List.cons_append, List.append_nil, List.take_succ_cons, List.take_zero, List.drop_succ_cons, List.drop_zero, List.set_cons_zero, List.set_cons_succ, List.map_cons, List.map_nil, implies_true, forall_const, ne_eq, hnt3, encN_length, encN_take, wkS_0, wkS_1, wkS_2, wkS_4, wkS_next, hle, n1, n2, hget, stp, hjd, hjp, hwr, Int.toNat_natCast, Int.natCast_nonneg, bne_self_eq_false, beq_self_eq_true]
      by_cases hst2 : (jj : Int) + 1 = stopV s
      · have hb : ((jj : Int) + 1 == stopV s) = true := by simp [hst2]
        have hs : wkStep (stopV s) (jj : Int) (dd, x) = ((jj : Int) + 1, some (.exit 2)) := by simp [wkStep, hst2]
        rw [hs]
        refine hgo_sound 60 ?_
        simp -implicitDefEqProofs (maxSteps := 1000000) only [simpS, ↓condJ_true, ↓condJ_false, ↓reduceIte, Nat.reduceEqDiff, Nat.reduceLT, Nat.reduceLeDiff, reduceCtorEq, Nat.reduceAdd, Nat.reduceSub, Option.map_some, if_true, if_false, List.getD_cons_zero, List.getD_cons_succ, List.length_cons, List.length_nil, List.mem_cons, List.not_mem_nil, List.mem_append, List.nil_append, List.cons_append, List.append_nil, List.take_succ_cons, List.take_zero, List.drop_succ_cons, List.drop_zero, List.set_cons_zero, List.set_cons_succ, List.map_cons, List.map_nil, implies_true, forall_const, ne_eq, encN_length, encN_take, wkS_0, wkS_1, wkS_2, wkS_4, wkS_next, hle, n1, n2, hget, stp, hjd, hjp, hwr, Int.toNat_natCast, Int.natCast_nonneg, bne_self_eq_false, beq_self_eq_true, hb]
        exact hx_exit (round_exit rfl rfl (hS _) hl2 hτ hle (((Ext.refl τ).new _)))
      · have hb : ((jj : Int) + 1 == stopV s) = false := by simp [hst2]
        have hs : wkStep (stopV s) (jj : Int) (dd, x) = ((jj : Int) + 1, none) := by simp [wkStep, hst2]
        rw [hs]
        refine hgo_sound 60 ?_
        simp -implicitDefEqProofs (maxSteps := 1000000) only [simpS, ↓condJ_true, ↓condJ_false, ↓reduceIte, Nat.reduceEqDiff, Nat.reduceLT, Nat.reduceLeDiff, reduceCtorEq, Nat.reduceAdd, Nat.reduceSub, Option.map_some, if_true, if_false, List.getD_cons_zero, List.getD_cons_succ, List.length_cons, List.length_nil, List.mem_cons, List.not_mem_nil, List.mem_append, List.nil_append, List.cons_append, List.append_nil, List.take_succ_cons, List.take_zero, List.drop_succ_cons, List.drop_zero, List.set_cons_zero, List.set_cons_succ, List.map_cons, List.map_nil, implies_true, forall_const, ne_eq, encN_length, encN_take, wkS_0, wkS_1, wkS_2, wkS_4, wkS_next, hle, n1, n2, hget, stp, hjd, hjp, hwr, Int.toNat_natCast, Int.natCast_nonneg, bne_self_eq_false, beq_self_eq_true, hb]
        exact round_next rfl rfl (hS _) hl2 hτ hle (((Ext.refl τ).new _))
    · have hend : HX M (wkPost M) [.code walksB] (wkE2 σ z P) (wkS2 σ n (stopV s) (min (stopV s) (walkN n).length) false (walkN n)).bump := rest M H
      rw [wkStep_run _ _ _ (by omega), Int.zero_add]
      have hend2 : ∀ (e : Env), allW e (wkE2 σ z P) → HX M (wkPost M) [.code walksB] e (wkS2 σ n (stopV s) (min (stopV s) (walkN n).length) false (walkN n)).bump := fun e he =>
        hx_env (wkE2 σ z P) he hend (fun _ e => by cases e) (fun _ e => by cases e)
      by_cases hx : stopV s ≤ (walkN n).length
      · rw [if_pos hx]
        refine hx_exit ((if_pos rfl).mpr (?_ : HX M (wkPost M) _ _ _))
        exact hend2 _ ⟨fun _ _ _ h => h, fun _ _ _ h => h, fun _ _ _ h => h, fun _ _ _ h => h, fun _ _ _ h => h, fun _ _ _ h => h, fun _ _ _ h => h, trivial⟩
      · rw [if_neg hx]
        refine hx_inBlock ?_
        exact hend2 _ ⟨fun _ _ _ h => h, fun _ _ _ h => h, fun _ _ _ h => h, fun _ _ _ h => h, fun _ _ _ h => h, fun _ _ _ h => h, fun _ _ _ h => h, trivial⟩

end Go.Hl
