/-
  tree.down.
-/
import Derived.Test.YtlaljehmcacmjaaTrA
set_option linter.unusedSectionVars false
set_option linter.unusedVariables false
set_option linter.unusedSimpArgs false
namespace Go.Hl
open Go Go.Proofs

structure DS (C : Type) where
  st : List (Int × Nd)
  c : C
  tid : Nat
  vid : Nat
  g : Nat

/-- The store in tree.down's loop. -/
def DS.T {X : Type} (tk : Tk X) (s : DS tk.C) : St := ((tk.T s.c).newAt s.vid (.vec s.g 6 (encSt s.st))).newAt s.tid (.box [.vec s.vid s.g])

structure DInv (tk : Tk (Int × Nd)) (c0 : tk.C) (all : List (Int × Nd)) (s : DS tk.C) : Prop where
  hv : tk.N ≤ s.vid
  ht : s.vid < s.tid
  bd : ∀ x ∈ s.st, 0 ≤ x.1 ∧ x.1 + cntN x.2 ≤ 1099511627776
  cnt : cntSt s.st ≤ 1099511627776
  ok : tk.oks s.c (walkSt s.st)
  run : tk.run c0 all = tk.run s.c (walkSt s.st)

theorem DS.wf {X : Type} (tk : Tk X) (s : DS tk.C) (hv : tk.N ≤ s.vid) (ht : s.vid < s.tid) : (DS.T tk s).wf :=
  ((tk.wf s.c).newAt (by rw [tk.next]; exact hv) (show (Ob.vec s.g 6 (encSt s.st)).lt (s.vid + 1) from encSt_lt _ _)).newAt (by rw [St.next_newAt]; omega) (by simp only [Ob.lt, ltL, D.lt, and_true]; omega)

/-- What the kids' pushes leave: the list, and how often it was appended to. -/
structure PS where
  st : List (Int × Nd)
  g : Nat

def PS.step (d : Int) (p : PS) (x : Int × Nd) : PS × Option HC := (⟨(d + 1, x.2) :: p.st, p.g + 1⟩, none)

theorem PS.run (d : Int) : ∀ (xs : List (Int × Nd)) (p : PS), rngRun (PS.step d) p xs = (⟨(xs.map fun x => (d + 1, x.2)).reverse ++ p.st, p.g + xs.length⟩, none)
  | [], p => rfl
  | x :: xs, p => by
    simp only [rngRun, PS.step]
    rw [PS.run d xs]
    simp
    omega

theorem PS.oks (d : Int) : ∀ (xs : List (Int × Nd)) (p : PS), p.st.length + xs.length ≤ 1099511627776 → rngOks (fun (p : PS) (x : Int × Nd) => p.st.length < 1099511627776) (PS.step d) p xs
  | [], p, _ => trivial
  | x :: xs, p, h => by
    simp only [List.length_cons] at h
    refine ⟨by show p.st.length < _; omega, fun _ => PS.oks d xs _ ?_⟩
    simp only [PS.step, List.length_cons]
    omega

theorem encSt_cons (d : Int) (m : Nd) (r) : encSt ((d, m) :: r) = encSt r ++ [.int .i64 d :: encN m] := by simp [encSt, stp]

theorem down_iter (n : Nd) (hn : cntN n ≤ 1099511627776) : Iter Try.prog 34 (fun y => [.agg (encN n), y]) encX (preN 0 n) := by
  intro tk c y hok hy
  refine hcalls_body (fn := Try.f34) rfl c34 (by simp [h34]) (by simp [h34, Try.f34]) ?_
  intro M hP hr hnt hnx hwf hlt
  simp only [h34, argEnv]
  refine hgo_sound 20 ?_
  simp -implicitDefEqProofs (maxSteps := 1000000) only [simpS, ↓condJ_true, ↓condJ_false, ↓reduceIte, Nat.reduceEqDiff, Nat.reduceLT, Nat.reduceLeDiff, reduceCtorEq, Nat.reduceAdd, Nat.reduceSub, Option.map_some, if_true, if_false, List.getD_cons_zero, List.getD_cons_succ, List.length_cons, List.length_nil, List.mem_cons, List.not_mem_nil, List.mem_append, List.nil_append, List.cons_append, List.append_nil, List.take_succ_cons, List.take_zero, List.drop_succ_cons, List.drop_zero, List.set_cons_zero, List.set_cons_succ, List.map_cons, List.map_nil, implies_true, forall_const, ne_eq, encN_length, tk.next]
  refine hx_know_code fun hw hl hn1 => ?_
  have hylt := hl 1
  refine hx_loop (S := DS tk.C) (fun s => [(1, y), (4, .ptr s.tid 0)]) (DS.T tk) (DInv tk c (preN 0 n)) (fun s => cntSt s.st)
    ⟨[(0, n)], c, tk.N + 2, tk.N + 1, 0⟩ ⟨by simp only; omega, by simp only; omega, ?_, ?_, ?_, ?_⟩ (fun _ _ h => by rw [hr] at h; cases h) ?_ ?_
  · intro x hx
    simp only [List.mem_cons, List.not_mem_nil, or_false] at hx
    subst hx
    simp only
    omega
  · simp only [cntSt]; omega
  · simpa only [walkSt, List.append_nil] using hok
  · simp only [walkSt, List.append_nil]
  · refine Drop.allS ⟨by simp only [DS.T, St.next_newAt, St.next_new, tk.next]; omega, fun id o => ?_, rfl⟩ (DS.wf tk _ (by simp only; omega) (by simp only; omega)) (by rw [hnx, tk.next]; simp only [DS.T, St.next_newAt]; omega) ?_
    · simp only [DS.T, St.obj_newAt, St.obj_new, St.next_new, tk.next, encSt, stp, List.reverse_cons, List.reverse_nil, List.nil_append, List.map_cons, List.map_nil, Nat.add_assoc, Nat.reduceAdd]
      intro h
      by_cases q1 : id = tk.N + 2
      · rw [if_pos q1] at h ⊢; exact h
      · rw [if_neg q1] at h ⊢
        by_cases q2 : id = tk.N + 1
        · rw [if_pos q2] at h ⊢; exact h
        · rw [if_neg q2] at h ⊢
          have := ((tk.wf c).obj id o h).1
          rw [tk.next] at this
          rw [if_neg (by omega)]
          exact h
    · refine ⟨⟨rfl, ?_⟩, ⟨rfl, ?_⟩, trivial⟩
      · simpa only [DS.T, St.next_newAt, St.next_new, tk.next, look, Nat.reduceEqDiff, if_true, if_false, reduceIte, Nat.add_assoc, Nat.reduceAdd] using hylt
      · simp only [DS.T, St.next_newAt, D.lt]; omega
  rintro ⟨st, c1, tid, vid, g⟩ ⟨hv, ht, bd, cnt, ok, run⟩
  simp only at hv ht bd cnt ok run ⊢
  have hT : DS.T tk ⟨st, c1, tid, vid, g⟩ = ((tk.T c1).newAt vid (.vec g 6 (encSt st))).newAt tid (.box [.vec vid g]) := rfl
  rw [hT]
  have e1 : ¬ vid = tid := by omega
  have e2 : ¬ vid = tid + 1 := by omega
  refine hx_know_code fun hw1 hl1 hn1 => ?_
  have hv' : (tk.T c1).next ≤ vid := by rw [tk.next]; exact hv
  have hn0 : M.gS.next ≤ (tk.T c1).next := by rw [hnx, tk.next, tk.next]; exact Nat.le_refl _
  cases st with
  | nil =>
    refine hgo_sound 20 ?_
    have hz : decide ((((encSt []).length : Nat) : Int) > 0) = false := rfl
    simp -implicitDefEqProofs (maxSteps := 1000000) only [simpS, ↓condJ_true, ↓condJ_false, ↓reduceIte, Nat.reduceEqDiff, Nat.reduceLT, Nat.reduceLeDiff, reduceCtorEq, Nat.reduceAdd, Nat.reduceSub, Option.map_some, if_true, if_false, List.getD_cons_zero, List.getD_cons_succ, List.length_cons, List.length_nil, List.mem_cons, List.not_mem_nil, List.mem_append, List.nil_append, List.cons_append, List.append_nil, List.take_succ_cons, List.take_zero, List.drop_succ_cons, List.drop_zero, List.set_cons_zero, List.set_cons_succ, List.map_cons, List.map_nil, implies_true, forall_const, ne_eq, e1, hz]
    rw [run]
    exact fpost_pure (.inl rfl) hn0 (tk.wf c1) ((((Ext.refl (tk.T c1)).newAt hv' _).newAt (by omega) _).sub (tk.wf c1)) rfl trivial (by simp only [tupD, D.lt, ltL]) rfl
  | cons x r =>
    obtain ⟨d, m⟩ := x
    have hlen := encSt_length ((d, m) :: r)
    simp only [List.length_cons] at hlen
    have hlc := len_le_cnt ((d, m) :: r)
    simp only [List.length_cons] at hlc
    have hpos : ((r.length + 1 : Nat) : Int) > 0 := by omega
    have hwr : IntKind.i64.wrap (((r.length + 1 : Nat) : Int) - 1) = (r.length : Int) := by rw [IntWalk.i64_in _ (by omega)]; omega
    have hr0 : (r.length : Int) < ((r.length + 1 : Nat) : Int) := by omega
    have hr1 : (r.length : Int) ≤ ((r.length + 1 : Nat) : Int) := by omega
    refine hgo_sound 60 ?_
    simp -implicitDefEqProofs (maxSteps := 1000000) only [simpS, ↓condJ_true, ↓condJ_false, ↓reduceIte, Nat.reduceEqDiff, Nat.reduceLT, Nat.reduceLeDiff, reduceCtorEq, Nat.reduceAdd, Nat.reduceSub, Option.map_some, if_true, if_false, List.getD_cons_zero, List.getD_cons_succ, List.length_cons, List.length_nil, List.mem_cons, List.not_mem_nil, List.mem_append, List.nil_append, List.cons_append, List.append_nil, List.take_succ_cons, List.take_zero, List.drop_succ_cons, List.drop_zero, List.set_cons_zero, List.set_cons_succ, List.map_cons, List.map_nil, implies_true, forall_const, ne_eq, e1, e2, Ne.symm e1, Ne.symm e2, hlen, hpos, hwr, Int.toNat_natCast, Int.natCast_nonneg, encSt_getD, encSt_take, encN_length, encN_take, hr0, hr1]
    have hdm : walkSt ((d, m) :: r) = (d, m) :: walkSt (m.kids.map (fun k => (d + 1, k)) ++ r) := walkSt_cons d m r
    rw [hdm] at ok run
    refine hx_call rfl (by rw [hP]; exact hy.call c1 (d, m) _ ((((tk.low c1).newAt hv _).newAt (by omega) _).new _) ok.1) ?_
    rintro _ σ3 ⟨rfl, rfl⟩
    rw [new_mix (by simp only [St.next_newAt]; omega), newAt_mix (by omega), newAt_mix hv, tk.mixT]
    generalize hc2 : (tk.step c1 (d, m)).1 = c2
    refine hx_know_ops fun hw3 hl3 hn3 => ?_
    refine hgo_sound 40 ?_
    simp -implicitDefEqProofs (maxSteps := 1000000) only [simpS, ↓condJ_true, ↓condJ_false, ↓reduceIte, Nat.reduceEqDiff, Nat.reduceLT, Nat.reduceLeDiff, reduceCtorEq, Nat.reduceAdd, Nat.reduceSub, Option.map_some, if_true, if_false, List.getD_cons_zero, List.getD_cons_succ, List.length_cons, List.length_nil, List.mem_cons, List.not_mem_nil, List.mem_append, List.nil_append, List.cons_append, List.append_nil, List.take_succ_cons, List.take_zero, List.drop_succ_cons, List.drop_zero, List.set_cons_zero, List.set_cons_succ, List.map_cons, List.map_nil, implies_true, forall_const, ne_eq, encN_kids, encN_length]
    refine ⟨fun hb => ?_, fun hb => ?_⟩
    · have hb' : (tk.step c1 (d, m)).2 = false := by simpa using hb
      rw [run, Tk.run_false hb', hc2]
      exact fpost_pure (.inr rfl) (by rw [hnx, tk.next, tk.next]; exact Nat.le_refl _) (tk.wf c2) (((((Ext.refl (tk.T c2)).newAt (by rw [tk.next]; exact hv) _).newAt (by rw [tk.next]; omega) _).new _).sub (tk.wf c2)) rfl trivial (by simp only [tupD, D.lt, ltL]) rfl
    · have hb' : (tk.step c1 (d, m)).2 = true := by simpa using hb
      rw [Tk.run_true hb', hc2] at run
      replace ok := ok.2 hb'
      rw [hc2] at ok
      refine hx_call (f := .fn 51) rfl (by rw [hP]; exact hcallD_func (backward_calls (encNs m.kids) _)) ?_
      rintro _ σ4 ⟨rfl, rfl⟩
      refine hgo_sound 8 ?_
      simp -implicitDefEqProofs (maxSteps := 1000000) only [simpS, ↓condJ_true, ↓condJ_false, ↓reduceIte, Nat.reduceEqDiff, Nat.reduceLT, Nat.reduceLeDiff, reduceCtorEq, Nat.reduceAdd, Nat.reduceSub, Option.map_some, if_true, if_false, List.getD_cons_zero, List.getD_cons_succ, List.length_cons, List.length_nil, List.mem_cons, List.not_mem_nil, List.mem_append, List.nil_append, List.cons_append, List.append_nil, List.take_succ_cons, List.take_zero, List.drop_succ_cons, List.drop_zero, List.set_cons_zero, List.set_cons_succ, List.map_cons, List.map_nil, implies_true, forall_const, ne_eq]
      have hcm := bd (d, m) (by simp)
      simp only at hcm
      have hckm := cntN_kids m
      have hkm := kids_le m.kids
      have hrl := len_le_cnt r
      have hd1 : 0 ≤ d ∧ d < 1099511627776 := by omega
      refine hx_know_code fun hw4 hl4 hn4 => ?_
      have hS : ∀ p : PS, ((((tk.T c2).newAt vid (.vec p.g 6 (encSt p.st))).newAt tid (.box [.vec vid p.g])).new (.box (.int .i64 d :: encN m))).wf := fun p =>
        (((tk.wf c2).newAt (by rw [tk.next]; exact hv) (show (Ob.vec p.g 6 (encSt p.st)).lt (vid + 1) from encSt_lt _ _)).newAt (by rw [St.next_newAt]; omega) (by simp only [Ob.lt, ltL, D.lt, and_true]; omega)).new
          (show ltL _ (_ :: encN m) from ⟨trivial, encN_lt _ m⟩)
      refine hx_range_fold (fn := 54) (caps := [.eptr [.slice .no 5 (encNs m.kids)] 0]) (xs := backI m.kids m.kids.length) (enc := encX)
        (fun p : PS => (((tk.T c2).newAt vid (.vec p.g 6 (encSt p.st))).newAt tid (.box [.vec vid p.g])).new (.box (.int .i64 d :: encN m)))
        (fun p x => p.st.length < 1099511627776) (PS.step d) ⟨r, g + 1⟩ rfl (by rw [hP]; rfl) (fun _ _ h => by rw [hr] at h; cases h) (by rw [hP]; exact backward_iter _ (by omega)) rfl (fun _ => rfl) (fun _ _ => rfl)
        hS hl4 (PS.oks d _ _ (by have := backI_len m.kids m.kids.length; simp only [cntSt] at cnt; simp only; omega)) (fun _ => rfl) (by rw [hnt]; decide) ?_ ?_
      · -- a push
        rintro ⟨st, g1⟩ ⟨j, kc⟩ τ hst hle hτ hgl M' hP' hnt' hr' hnx' hwf' hlt'
        simp only [St.next_new, St.next_newAt, Nat.add_assoc, Nat.reduceAdd] at hle hst ⊢
        have n1 : ¬ τ.next < tid + 3 := by omega
        have f1 : vid < tid + 3 := by omega
        have f2 : ¬ tid = τ.next := by omega
        have e3 : ¬ vid = tid + 2 := by omega
        simp only [encX, putsE]
        refine hgo_sound 20 ?_
        simp -implicitDefEqProofs (maxSteps := 1000000) only [simpS, ↓condJ_true, ↓condJ_false, ↓reduceIte, Nat.reduceEqDiff, Nat.reduceLT, Nat.reduceLeDiff, reduceCtorEq, Nat.reduceAdd, Nat.reduceSub, Option.map_some, if_true, if_false, List.getD_cons_zero, List.getD_cons_succ, List.length_cons, List.length_nil, List.mem_cons, List.not_mem_nil, List.mem_append, List.nil_append, List.cons_append, List.append_nil, List.take_succ_cons, List.take_zero, List.drop_succ_cons, List.drop_zero, List.set_cons_zero, List.set_cons_succ, List.map_cons, List.map_nil, implies_true, forall_const, ne_eq, e1, e2, Ne.symm e1, Ne.symm e2, encN_length, hle, n1, f1, f2]
        have hwr : IntKind.i64.wrap (d + 1) = d + 1 := IntWalk.i64_in _ (by omega)
        have hsl := encSt_length st
        have hbt : ((encSt st).length + 1) * 80 ≤ 140737488355328 := by omega
        have hbt2 : (encSt st).length + 1 ≤ 9223372036854775807 := by omega
        refine hgo_sound 60 ?_
        simp -implicitDefEqProofs (maxSteps := 1000000) only [simpS, ↓condJ_true, ↓condJ_false, ↓reduceIte, Nat.reduceEqDiff, Nat.reduceLT, Nat.reduceLeDiff, reduceCtorEq, Nat.reduceAdd, Nat.reduceSub, Option.map_some, if_true, if_false, List.getD_cons_zero, List.getD_cons_succ, List.length_cons, List.length_nil, List.mem_cons, List.not_mem_nil, List.mem_append, List.nil_append, List.cons_append, List.append_nil, List.take_succ_cons, List.take_zero, List.drop_succ_cons, List.drop_zero, List.set_cons_zero, List.set_cons_succ, List.map_cons, List.map_nil, implies_true, forall_const, ne_eq, e1, e2, Ne.symm e1, Ne.symm e2, encN_length, hwr, hbt, hbt2, hle, n1, f1, f2, e3]
        refine round_end none trivial ?_ rfl ?_ hl4 hτ hle ((Ext.refl τ).new _)
        · simp only [encSt_cons, PS.step]
        · exact hS _
      · rw [PS.run]
        have hpush : (List.map (fun x => (d + 1, x.2)) (backI m.kids m.kids.length)).reverse ++ r = m.kids.map (fun k => (d + 1, k)) ++ r := by
          rw [backI_map _ _ _ (Nat.le_refl _), List.take_length]; simp
        simp only [hpush]
        refine hx_inBlock (hx_inBlock ?_)
        generalize g + 1 + (backI m.kids m.kids.length).length = g2
        refine hgo_sound 20 ?_
        simp -implicitDefEqProofs (maxSteps := 1000000) only [simpS, ↓condJ_true, ↓condJ_false, ↓reduceIte, Nat.reduceEqDiff, Nat.reduceLT, Nat.reduceLeDiff, reduceCtorEq, Nat.reduceAdd, Nat.reduceSub, Option.map_some, if_true, if_false, List.getD_cons_zero, List.getD_cons_succ, List.length_cons, List.length_nil, List.mem_cons, List.not_mem_nil, List.mem_append, List.nil_append, List.cons_append, List.append_nil, List.take_succ_cons, List.take_zero, List.drop_succ_cons, List.drop_zero, List.set_cons_zero, List.set_cons_succ, List.map_cons, List.map_nil, implies_true, forall_const, ne_eq, e1, e2, Ne.symm e1, Ne.symm e2]
        intro hw9 hl9 hn9
        refine ⟨⟨m.kids.map (fun k => (d + 1, k)) ++ r, c2, tid + 3, vid, g2⟩, ⟨hv, by simp only; omega, fun x hx => ?_, ?_, ok, run⟩, ?_, Drop.allS ⟨?_, fun id o => ?_, rfl⟩ (DS.wf tk _ hv (by simp only; omega)) (by simp only [DS.T, St.next_newAt]; rw [hnx, tk.next]; omega) ⟨⟨rfl, ?_⟩, ⟨rfl, ?_⟩, trivial⟩⟩
        · rcases List.mem_append.1 hx with hx | hx
          · obtain ⟨k, hk, rfl⟩ := List.mem_map.1 hx
            have := cntN_mem hk
            simp only
            omega
          · exact bd x (by simp [hx])
        · simp only [cntSt_append, cntNs_eq]
          simp only [cntSt] at cnt
          omega
        · simp only [cntSt_append, cntNs_eq, cntSt]
          omega
        · simp only [DS.T, St.next_newAt, St.next_new, St.next_bump]; omega
        · simp only [DS.T, St.obj_newAt, St.obj_new, St.obj_bump, St.next_newAt, St.next_new, St.next_bump, Nat.add_assoc, Nat.reduceAdd]
          intro h
          by_cases q1 : id = tid + 3
          · simpa [q1] using h
          · by_cases q2 : id = vid
            · subst q2
              simpa [q1, e1, e2] using h
            · simp only [q1, q2, if_false] at h ⊢
              have := ((tk.wf c2).obj id o h).1
              rw [tk.next] at this
              rw [if_neg (by omega), if_neg (by omega)]
              exact h
        · have := hl9 1
          simpa only [DS.T, St.next_newAt, if_true, if_false, reduceIte, Nat.reduceEqDiff, Nat.add_assoc, Nat.reduceAdd] using this
        · simp only [DS.T, St.next_newAt, D.lt]; omega

end Go.Hl
