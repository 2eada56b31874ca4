/-
  tree.down.
-/
import Derived.Test.YtijcddlahidhhaaDoorSgE
import Derived.Test.YtijcddlahidhhaaDoorHlS
set_option linter.unusedSectionVars false
set_option linter.unusedVariables false
set_option linter.unusedSimpArgs false
set_option maxRecDepth 100000
namespace Go.Hl
open Go Go.Proofs

structure DS (C : Type) where
  st : List (Int × Nd)
  c : C
  tid : Nat
  vid : Nat
  g : Nat

def DS.T {X : Type} (tk : Tk X) (s : DS tk.C) : St := ((tk.T s.c).newAt s.vid (.vec s.g 6 (encSt s.st))).newAt s.tid (.box [.vec s.vid s.g])

structure DInv (tk : Tk (Int × Nd)) (c0 : tk.C) (all : List (Int × Nd)) (s : DS tk.C) : Prop where
  hv : tk.N ≤ s.vid
  ht : s.vid < s.tid
  bd : ∀ x ∈ s.st, 0 ≤ x.1 ∧ x.1 + cntN x.2 ≤ 1099511627776
  cnt : cntSt s.st ≤ 1099511627776
  ok : tk.oks s.c (walkSt s.st)
  run : tk.run c0 all = tk.run s.c (walkSt s.st)

theorem DS.wf {X : Type} (tk : Tk X) (s : DS tk.C) (hv : tk.N ≤ s.vid) (ht : s.vid < s.tid) : (DS.T tk s).wf :=
  ((tk.wf s.c).newAt (by rw [tk.next]; exact hv) (show (Ob.vec s.g 6 (encSt s.st)).lt (s.vid + 1) from encSt_lt _ _)).newAt (by rw [St.next_newAt]; omega) (by simp only [Ob.lt, ltL, D.lt, and_true]; omega)

structure PS where
  st : List (Int × Nd)
  g : Nat

def PS.step (d : Int) (p : PS) (x : Int × Nd) : PS × Option HC := (⟨(d + 1, x.2) :: p.st, p.g + 1⟩, none)

theorem PS.run (d : Int) : ∀ (xs : List (Int × Nd)) (p : PS), rngRun (PS.step d) p xs = (⟨(xs.map fun x => (d + 1, x.2)).reverse ++ p.st, p.g + xs.length⟩, none)
  | [], p => rfl
  | x :: xs, p => by
    simp only [rngRun, PS.step]
    rw [PS.run d xs]
    simp
    omega

theorem PS.oks (d : Int) : ∀ (xs : List (Int × Nd)) (p : PS), p.st.length + xs.length ≤ 1099511627776 → rngOks (fun (p : PS) (x : Int × Nd) => p.st.length < 1099511627776) (PS.step d) p xs
  | [], p, _ => trivial
  | x :: xs, p, h => by
    simp only [List.length_cons] at h
    refine ⟨by show p.st.length < _; omega, fun _ => PS.oks d xs _ ?_⟩
    simp only [PS.step, List.length_cons]
    omega

theorem encSt_cons (d : Int) (m : Nd) (r) : encSt ((d, m) :: r) = encSt r ++ [.int .i64 d :: encN m] := by simp [encSt, stp]

theorem down_iter (n : Nd) (hn : cntN n ≤ 1099511627776) : Iter Tryd.prog 34 (fun y => [.agg (encN n), y]) encX (preN 0 n) := by
  intro tk c y hok hy
  refine hcalls_body (fn := Tryd.f34) rfl c34 (by simp [h34]) (by simp [h34, Tryd.f34]) ?_
  intro M hP hr hnt hnx hwf hlt
  simp only [h34, argEnv]
  refine hgo_sound 20 ?_
  simp -implicitDefEqProofs (maxSteps := 1000000) only [simpS, ↓condJ_true, ↓condJ_false, ↓reduceIte, Nat.reduceEqDiff, Nat.reduceLT, Nat.reduceLeDiff, reduceCtorEq, Nat.reduceAdd, Nat.reduceSub, listS, implies_true, forall_const, ne_eq, encN_length, tk.next]
  refine hx_know_code fun hw hl hn1 => ?_
  have hylt := hl 1
  refine hx_loop (S := DS tk.C) (fun s => [(1, y), (4, .ptr s.tid 0)]) (DS.T tk) (DInv tk c (preN 0 n)) (fun s => cntSt s.st)
    ⟨[(0, n)], c, tk.N + 2, tk.N + 1, 0⟩ ⟨by simp only; omega, by simp only; omega, ?_, ?_, ?_, ?_⟩ (fun _ _ h => by rw [hr] at h; cases h) ?_ ?_
  · intro x hx
    simp only [List.mem_cons, List.not_mem_nil, or_false] at hx
    subst hx
    simp only
    omega
  · simp only [cntSt]; omega
  · simpa only [walkSt, List.append_nil] using hok
  · simp only [walkSt, List.append_nil]
  · refine Drop.allS ⟨by simp only [DS.T, St.next_newAt, St.next_new, tk.next]; omega, fun id o => ?_, rfl⟩ (DS.wf tk _ (by simp only; omega) (by simp only; omega)) (by rw [hnx, tk.next]; simp only [DS.T, St.next_newAt]; omega) ?_
    · simp only [DS.T, St.obj_newAt, St.obj_new, St.next_new, tk.next, encSt, stp, List.reverse_cons, List.reverse_nil, List.nil_append, List.map_cons, List.map_nil, Nat.add_assoc, Nat.reduceAdd]
      intro h
      by_cases q1 : id = tk.N + 2
      · rw [if_pos q1] at h ⊢; exact h
      · rw [if_neg q1] at h ⊢
        by_cases q2 : id = tk.N + 1
        · rw [if_pos q2] at h ⊢; exact h
        · rw [if_neg q2] at h ⊢
          have := ((tk.wf c).obj id o h).1
          rw [tk.next] at this
          rw [if_neg (by omega)]
          exact h
    · refine ⟨⟨rfl, ?_⟩, ⟨rfl, ?_⟩, trivial⟩
      · simpa only [DS.T, St.next_newAt, St.next_new, tk.next, look, Nat.reduceEqDiff, if_true, if_false, reduceIte, Nat.add_assoc, Nat.reduceAdd] using hylt
      · simp only [DS.T, St.next_newAt, D.lt]; omega
  rintro ⟨st, c1, tid, vid, g⟩ ⟨hv, ht, bd, cnt, ok, run⟩
  simp only at hv ht bd cnt ok run ⊢
  have hT : DS.T tk ⟨st, c1, tid, vid, g⟩ = ((tk.T c1).newAt vid (.vec g 6 (encSt st))).newAt tid (.box [.vec vid g]) := rfl
  rw [hT]
  have e1 : ¬ vid = tid := by omega
  have e2 : ¬ vid = tid + 1 := by omega
  refine hx_know_code fun hw1 hl1 hn1 => ?_
  have hv' : (tk.T c1).next ≤ vid := by rw [tk.next]; exact hv
  have hn0 : M.gS.next ≤ (tk.T c1).next := by rw [hnx, tk.next, tk.next]; exact Nat.le_refl _
  cases st with
  | nil =>
    refine hgo_sound 20 ?_
    have hz : decide ((((encSt []).length : Nat) : Int) > 0) = false := rfl
    simp -implicitDefEqProofs (maxSteps := 1000000) only [simpS, ↓condJ_true, ↓condJ_false, ↓reduceIte, Nat.reduceEqDiff, Nat.reduceLT, Nat.reduceLeDiff, reduceCtorEq, Nat.reduceAdd, Nat.reduceSub, listS, implies_true, forall_const, ne_eq, e1, hz]
    rw [run]
    exact fpost_pure (.inl rfl) hn0 (tk.wf c1) ((((Ext.refl (tk.T c1)).newAt hv' _).newAt (by omega) _).sub (tk.wf c1)) rfl trivial (by simp only [tupD, D.lt, ltL]) rfl
  | cons x r =>
    obtain ⟨d, m⟩ := x
    have hlen := encSt_length ((d, m) :: r)
    simp only [List.length_cons] at hlen
    have hlc := len_le_cnt ((d, m) :: r)
    simp only [List.length_cons] at hlc
    have hpos : ((r.length + 1 : Nat) : Int) > 0 := by omega
    have hwr : IntKind.i64.wrap (((r.length + 1 : Nat) : Int) - 1) = (r.length : Int) := by rw [IntWalk.i64_in _ (by omega)]; omega
    have hr0 : (r.length : Int) < ((r.length + 1 : Nat) : Int) := by omega
    have hr1 : (r.length : Int) ≤ ((r.length + 1 : Nat) : Int) := by omega
    refine hgo_sound 60 ?_
    simp -implicitDefEqProofs (maxSteps := 1000000) only [simpS, ↓condJ_true, ↓condJ_false, ↓reduceIte, Nat.reduceEqDiff, Nat.reduceLT, Nat.reduceLeDiff, reduceCtorEq, Nat.reduceAdd, Nat.reduceSub, listS, implies_true, forall_const, ne_eq, e1, e2, Ne.symm e1, Ne.symm e2, hlen, hpos, hwr, Int.toNat_natCast, Int.natCast_nonneg, encSt_getD, encSt_take, encN_length, encN_take, hr0, hr1]
    have hdm : walkSt ((d, m) :: r) = (d, m) :: walkSt (m.kids.map (fun k => (d + 1, k)) ++ r) := walkSt_cons d m r
    rw [hdm] at ok run
    refine hx_call rfl (by rw [hP]; exact hy.call c1 (d, m) _ ((((tk.low c1).newAt hv _).newAt (by omega) _).new _) ok.1) ?_
    rintro _ σ3 ⟨rfl, rfl⟩
    rw [new_mix (by simp only [St.next_newAt]; omega), newAt_mix (by omega), newAt_mix hv, tk.mixT]
    generalize hc2 : (tk.step c1 (d, m)).1 = c2
    refine hx_know_ops fun hw3 hl3 hn3 => ?_
    refine hgo_sound 40 ?_
    simp -implicitDefEqProofs (maxSteps := 1000000) only [simpS, ↓condJ_true, ↓condJ_false, ↓reduceIte, Nat.reduceEqDiff, Nat.reduceLT, Nat.reduceLeDiff, reduceCtorEq, Nat.reduceAdd, Nat.reduceSub, listS, implies_true, forall_const, ne_eq, encN_kids, encN_length]
    refine ⟨fun hb => ?_, fun hb => ?_⟩
    · have hb' : (tk.step c1 (d, m)).2 = false := by simpa using hb
      rw [run, Tk.run_false hb', hc2]
      exact fpost_pure (.inr rfl) (by rw [hnx, tk.next, tk.next]; exact Nat.le_refl _) (tk.wf c2) (((((Ext.refl (tk.T c2)).newAt (by rw [tk.next]; exact hv) _).newAt (by rw [tk.next]; omega) _).new _).sub (tk.wf c2)) rfl trivial (by simp only [tupD, D.lt, ltL]) rfl
    · have hb' : (tk.step c1 (d, m)).2 = true := by simpa using hb
      rw [Tk.run_true hb', hc2] at run
      replace ok := ok.2 hb'
      rw [hc2] at ok
      refine hx_call (f := .fn 42) rfl (by rw [hP]; exact hcallD_func (backward_calls (encNs m.kids) _)) ?_
      rintro _ σ4 ⟨rfl, rfl⟩
      refine hgo_sound 8 ?_
      simp -implicitDefEqProofs (maxSteps := 1000000) only [simpS, ↓condJ_true, ↓condJ_false, ↓reduceIte, Nat.reduceEqDiff, Nat.reduceLT, Nat.reduceLeDiff, reduceCtorEq, Nat.reduceAdd, Nat.reduceSub, listS, implies_true, forall_const, ne_eq]
      have hcm := bd (d, m) (by simp)
      simp only at hcm
      have hckm := cntN_kids m
      have hkm := kids_le m.kids
      have hrl := len_le_cnt r
      have hd1 : 0 ≤ d ∧ d < 1099511627776 := by omega
      refine hx_know_code fun hw4 hl4 hn4 => ?_
      have hS : ∀ p : PS, ((((tk.T c2).newAt vid (.vec p.g 6 (encSt p.st))).newAt tid (.box [.vec vid p.g])).new (.box (.int .i64 d :: encN m))).wf := fun p =>
        (((tk.wf c2).newAt (by rw [tk.next]; exact hv) (show (Ob.vec p.g 6 (encSt p.st)).lt (vid + 1) from encSt_lt _ _)).newAt (by rw [St.next_newAt]; omega) (by simp only [Ob.lt, ltL, D.lt, and_true]; omega)).new
          (show ltL _ (_ :: encN m) from ⟨trivial, encN_lt _ m⟩)
      refine hx_range_fold (fn := 53) (caps := [.eptr [.slice .no 5 (encNs m.kids)] 0]) (xs := backI m.kids m.kids.length) (enc := encX)
        (fun p : PS => (((tk.T c2).newAt vid (.vec p.g 6 (encSt p.st))).newAt tid (.box [.vec vid p.g])).new (.box (.int .i64 d :: encN m)))
        (fun p x => p.st.length < 1099511627776) (PS.step d) ⟨r, g + 1⟩ rfl (by rw [hP]; rfl) (fun _ _ h => by rw [hr] at h; cases h) (by rw [hP]; exact backward_iter _ (by omega)) rfl (fun _ => rfl) (fun _ _ => rfl)
        hS hl4 (PS.oks d _ _ (by have := backI_len m.kids m.kids.length; simp only [cntSt] at cnt; simp only; omega)) (fun _ => rfl) (by rw [hnt]; decide) ?_ ?_
      · -- a push
        rintro ⟨st, g1⟩ ⟨j, kc⟩ τ hst hle hτ hgl M' hP' hnt' hr' hnx' hwf' hlt'
        simp only [St.next_new, St.next_newAt, Nat.add_assoc, Nat.reduceAdd] at hle hst ⊢
        have n1 : ¬ τ.next < tid + 3 := by omega
        have f1 : vid < tid + 3 := by omega
        have f2 : ¬ tid = τ.next := by omega
        have e3 : ¬ vid = tid + 2 := by omega
        simp only [encX, putsE]
        refine hgo_sound 20 ?_
        simp -implicitDefEqProofs (maxSteps := 1000000) only [simpS, ↓condJ_true, ↓condJ_false, ↓reduceIte, Nat.reduceEqDiff, Nat.reduceLT, Nat.reduceLeDiff, reduceCtorEq, Nat.reduceAdd, Nat.reduceSub, listS, implies_true, forall_const, ne_eq, e1, e2, Ne.symm e1, Ne.symm e2, encN_length, hle, n1, f1, f2]
        have hwr : IntKind.i64.wrap (d + 1) = d + 1 := IntWalk.i64_in _ (by omega)
        have hsl := encSt_length st
        have hbt : ((encSt st).length + 1) * 80 ≤ 140737488355328 := by omega
        have hbt2 : (encSt st).length + 1 ≤ 9223372036854775807 := by omega
        refine hgo_sound 60 ?_
        simp -implicitDefEqProofs (maxSteps := 1000000) only [simpS, ↓condJ_true, ↓condJ_false, ↓reduceIte, Nat.reduceEqDiff, Nat.reduceLT, Nat.reduceLeDiff, reduceCtorEq, Nat.reduceAdd, Nat.reduceSub, listS, implies_true, forall_const, ne_eq, e1, e2, Ne.symm e1, Ne.symm e2, encN_length, hwr, hbt, hbt2, hle, n1, f1, f2, e3]
        refine round_end none trivial ?_ rfl ?_ hl4 hτ hle ((Ext.refl τ).new _)
        · simp only [encSt_cons, PS.step]
        · exact hS _
      · rw [PS.run]
        have hpush : (List.map (fun x => (d + 1, x.2)) (backI m.kids m.kids.length)).reverse ++ r = m.kids.map (fun k => (d + 1, k)) ++ r := by
          rw [backI_map _ _ _ (Nat.le_refl _), List.take_length]; simp
        simp only [hpush]
        refine hx_inBlock (hx_inBlock ?_)
        generalize g + 1 + (backI m.kids m.kids.length).length = g2
        refine hgo_sound 20 ?_
        simp -implicitDefEqProofs (maxSteps := 1000000) only [simpS, ↓condJ_true, ↓condJ_false, ↓reduceIte, Nat.reduceEqDiff, Nat.reduceLT, Nat.reduceLeDiff, reduceCtorEq, Nat.reduceAdd, Nat.reduceSub, listS, implies_true, forall_const, ne_eq, e1, e2, Ne.symm e1, Ne.symm e2]
        intro hw9 hl9 hn9
        refine ⟨⟨m.kids.map (fun k => (d + 1, k)) ++ r, c2, tid + 3, vid, g2⟩, ⟨hv, by simp only; omega, fun x hx => ?_, ?_, ok, run⟩, ?_, Drop.allS ⟨?_, fun id o => ?_, rfl⟩ (DS.wf tk _ hv (by simp only; omega)) (by simp only [DS.T, St.next_newAt]; rw [hnx, tk.next]; omega) ⟨⟨rfl, ?_⟩, ⟨rfl, ?_⟩, trivial⟩⟩
        · rcases List.mem_append.1 hx with hx | hx
          · obtain ⟨k, hk, rfl⟩ := List.mem_map.1 hx
            have := cntN_mem hk
            simp only
            omega
          · exact bd x (by simp [hx])
        · simp only [cntSt_append, cntNs_eq]
          simp only [cntSt] at cnt
          omega
        · simp only [cntSt_append, cntNs_eq, cntSt]
          omega
        · simp only [DS.T, St.next_newAt, St.next_new, St.next_bump]; omega
        · simp only [DS.T, St.obj_newAt, St.obj_new, St.obj_bump, St.next_newAt, St.next_new, St.next_bump, Nat.add_assoc, Nat.reduceAdd]
          intro h
          by_cases q1 : id = tid + 3
          · simpa [q1] using h
          · by_cases q2 : id = vid
            · subst q2
              simpa [q1, e1, e2] using h
            · simp only [q1, q2, if_false] at h ⊢
              have := ((tk.wf c2).obj id o h).1
              rw [tk.next] at this
              rw [if_neg (by omega), if_neg (by omega)]
              exact h
        · have := hl9 1
          simpa only [DS.T, St.next_newAt, if_true, if_false, reduceIte, Nat.reduceEqDiff, Nat.add_assoc, Nat.reduceAdd] using this
        · simp only [DS.T, St.next_newAt, D.lt]; omega

end Go.Hl
set_option linter.unusedSectionVars false
set_option linter.unusedVariables false
set_option linter.unusedSimpArgs false
set_option maxRecDepth 100000
namespace Go.Hl
open Go Go.Proofs

def formedB : Nd → Bool
  | .mk k g t a ks =>
    if k < 1 ∨ k > 32 then false
    else if k = 1 then decide (¬ t = ⟨#[]⟩ ∧ a ≥ 0 ∧ ks = [])
    else decide (t = ⟨#[]⟩ ∧ g = ⟨#[]⟩ ∧ a = 0)

theorem formed_calls (n : Nd) (σ : St) : HCalls Tryd.prog 36 [.agg (encN n)] σ (fun d σ' => d = .bool (formedB n) ∧ σ' = σ) := by
  refine hcalls_body (fn := Tryd.f36) rfl c36 (by simp [h36]) (by simp [h36, Tryd.f36]) ?_
  intro M hP hr hnt hnx hwf hlt
  obtain ⟨k, g, t, a, ks⟩ := n
  simp only [h36, argEnv]
  refine hgo_sound 200 ?_
  simp -implicitDefEqProofs (maxSteps := 1000000) only [simpS, ↓condJ_true, ↓condJ_false, ↓reduceIte, Nat.reduceEqDiff, Nat.reduceLT, Nat.reduceLeDiff, reduceCtorEq, Nat.reduceAdd, Nat.reduceSub, listS, implies_true, forall_const, ne_eq, encN]
  have fin : ∀ (b : Bool) (e : Env) (σ1 : St), look e 2 = .bool b → Sub σ σ1 → b = formedB (.mk k g t a ks) → FPost M.gS.next [HR.tmp 2] (fun d σ' => d = .bool (formedB (.mk k g t a ks)) ∧ σ' = σ) .ret e σ1 := by
    intro b e σ1 h1 h2 h3
    refine fpost_pure (σ0 := σ) (.inr rfl) (by omega) hwf h2 (by simp only [resD, h1]; rfl) trivial ?_ ⟨by rw [← h3]; rfl, rfl⟩
    simp only [tupD, D.lt]
  have hsub := fun o => Sub.new hwf (Sub.refl σ) o
  have hlen : (((encNs ks).length : Int) == 0) = decide (ks = []) := by
    rw [encNs_length]
    cases ks with
    | nil => rfl
    | cons x xs => simp; omega
  refine ⟨fun h1 => fin _ _ _ rfl (hsub _) ?_, fun h1 => ⟨fun h2 => fin _ _ _ rfl (hsub _) ?_, fun h2 => fin _ _ _ rfl (hsub _) ?_⟩⟩ <;> simp only [formedB] <;> simp at h1 <;> (try simp at h2)
  all_goals (by_cases hk : k < 1 <;> simp [hk] at h1 ⊢ <;> (try omega))
  · have : ¬ (32 < k) := by omega
    simp [this, h2, hlen, Bool.and_assoc]
  · have : ¬ (32 < k) := by omega
    have e : (a == 0) = decide (a = 0) := by simp [BEq.beq]
    simp [this, h2, e, Bool.and_assoc]

def rightStep (c : Int × Bool) (x : Int × Nd) : (Int × Bool) × Bool :=
  ((c.1 + 1, formedB x.2 && decide (c.1 + 1 + x.2.kids.length ≤ 20000)), formedB x.2 && decide (c.1 + 1 + x.2.kids.length ≤ 20000))

def rightS (σ : St) (n : Nd) (c : Int × Bool) : St := ((σ.new (.box (encN n))).new (.box [.int .i64 c.1])).new (.box [.bool c.2])

def rightTk (σ : St) (hw : σ.wf) (n : Nd) : Tk (Int × Nd) where
  C := Int × Bool
  N := σ.next + 3
  T := rightS σ n
  ok c x := 0 ≤ c.1 ∧ c.1 ≤ 1099511627776 ∧ (x.2.kids.length : Int) ≤ 1099511627776
  step := rightStep
  next _ := rfl
  glob _ _ := rfl
  wf c := ((hw.box (encN_lt _ n)).box (cs := [.int .i64 c.1]) ⟨trivial, trivial⟩).box (cs := [.bool c.2]) ⟨trivial, trivial⟩

theorem right_takes (σ : St) (hw : σ.wf) (n : Nd) : (rightTk σ hw n).Takes Tryd.prog encX (.func 35 [.ptr (σ.next + 1) 0, .ptr (σ.next + 2) 0]) := by
  refine ⟨?_, rfl, ?_⟩
  · simp only [D.lt, ltL, rightTk]
    exact ⟨by omega, by omega, trivial⟩
  rintro ⟨m, b⟩ ⟨dd, x⟩ τ hlow ⟨b1, b2, b3⟩
  rw [← hlow.eq]
  have hle : σ.next + 3 ≤ τ.next := hlow.next
  have hgl := hlow.glob
  refine hcallD_func ?_
  refine hcalls_body (fn := Tryd.f35) rfl c35 (by simp [h35, encX]) (by simp [h35, Tryd.f35, encX]) ?_
  intro M hP hr hnt hnx hwf hlt
  rw [hlow.eq] at hwf
  simp only [h35, encX, List.cons_append, List.nil_append, argEnv]
  simp only at b1 b2 b3
  have hw1 : IntKind.i64.wrap (m + 1) = m + 1 := IntWalk.i64_in _ (by omega)
  have hw2 : IntKind.i64.wrap (m + 1 + (x.kids.length : Int)) = m + 1 + (x.kids.length : Int) := IntWalk.i64_in _ (by omega)
  have n1 : ¬ τ.next < σ.next + 3 := by omega
  refine hgo_sound 40 ?_
  simp -implicitDefEqProofs (maxSteps := 1000000) only [simpS, ↓condJ_true, ↓condJ_false, ↓reduceIte, Nat.reduceEqDiff, Nat.reduceLT, Nat.reduceLeDiff, reduceCtorEq, Nat.reduceAdd, Nat.reduceSub, listS, implies_true, forall_const, ne_eq, encN_length, rightTk, rightS, hw1, hle, n1]
  refine hx_call (f := .fn 36) rfl (by rw [hP]; exact hcallD_func (formed_calls x _)) ?_
  rintro _ _ ⟨rfl, rfl⟩
  refine hgo_sound 40 ?_
  simp -implicitDefEqProofs (maxSteps := 1000000) only [simpS, ↓condJ_true, ↓condJ_false, ↓reduceIte, Nat.reduceEqDiff, Nat.reduceLT, Nat.reduceLeDiff, reduceCtorEq, Nat.reduceAdd, Nat.reduceSub, listS, implies_true, forall_const, ne_eq, encN_length, encN_kids, encNs_length, hw1, hw2, hle, n1]
  have hb : (if formedB x = true then decide (m + 1 + (x.kids.length : Int) ≤ 20000) else false) = (formedB x && decide (m + 1 + (x.kids.length : Int) ≤ 20000)) := by cases formedB x <;> rfl
  rw [hb]
  simp only [mix_mix, encX] at hnx ⊢
  refine fpost_mix (.inr rfl) hnx rfl ((rightTk σ hw n).wf (rightStep (m, b) (dd, x)).1) rfl hwf hle ((Ext.refl τ).new _) rfl trivial rfl trivial

def rightRun : Int × Bool → List (Int × Nd) → Int × Bool
  | c, [] => c
  | c, x :: xs => if (rightStep c x).2 then rightRun (rightStep c x).1 xs else (rightStep c x).1

theorem rightTk_run (σ : St) (hw : σ.wf) (n : Nd) : ∀ (xs : List (Int × Nd)) (c : Int × Bool), ((rightTk σ hw n).run c xs).1 = rightRun c xs
  | [], c => rfl
  | x :: xs, c => by
    by_cases h : (rightStep c x).2 = true
    · rw [Tk.run_true (tk := rightTk σ hw n) (c := c) h, rightRun, if_pos h]
      exact rightTk_run σ hw n xs _
    · rw [Tk.run_false (tk := rightTk σ hw n) (c := c) (Bool.eq_false_iff.2 h), rightRun, if_neg h]
      rfl

theorem rightTk_oks (σ : St) (hw : σ.wf) (n : Nd) : ∀ (xs : List (Int × Nd)) (c : Int × Bool), 0 ≤ c.1 → c.1 + xs.length ≤ 1099511627776 → (∀ x ∈ xs, (x.2.kids.length : Int) ≤ 1099511627776) → (rightTk σ hw n).oks c xs
  | [], c, _, _, _ => trivial
  | x :: xs, c, h0, h1, h2 => by
    simp only [List.length_cons] at h1
    refine ⟨⟨h0, by omega, h2 x (by simp)⟩, fun _ => rightTk_oks σ hw n xs _ ?_ ?_ fun y hy => h2 y (by simp [hy])⟩
    · show 0 ≤ c.1 + 1
      omega
    · show c.1 + 1 + _ ≤ _
      omega

def rightN (n : Nd) : Bool := (rightRun (0, true) (preN 0 n)).2 && decide ((rightRun (0, true) (preN 0 n)).1 ≤ 20000)

mutual
theorem preN_len (d : Int) : ∀ n : Nd, (preN d n).length = cntN n
  | .mk k g t a ks => by simp only [preN, cntN, List.length_cons, preNs_len (d + 1) ks]; omega
theorem preNs_len (d : Int) : ∀ ns : List Nd, (preNs d ns).length = cntNs ns
  | [] => rfl
  | n :: ns => by simp only [preNs, cntNs, List.length_append, preN_len d n, preNs_len d ns]
end
mutual
theorem preN_kids (d : Int) : ∀ (n : Nd), ∀ x ∈ preN d n, x.2.kids.length ≤ cntN n
  | .mk k g t a ks, x, hx => by
    simp only [preN, List.mem_cons] at hx
    rcases hx with rfl | hx
    · have := kids_le ks
      simp only [Nd.kids, cntN]; omega
    · have := preNs_kids (d + 1) ks x hx
      simp only [cntN]; omega
theorem preNs_kids (d : Int) : ∀ (ns : List Nd), ∀ x ∈ preNs d ns, x.2.kids.length ≤ cntNs ns
  | [], x, hx => by simp [preNs] at hx
  | n :: ns, x, hx => by
    simp only [preNs, List.mem_append] at hx
    simp only [cntNs]
    rcases hx with hx | hx
    · have := preN_kids d n x hx; omega
    · have := preNs_kids d ns x hx; omega
end

theorem right_calls (n : Nd) (hn : cntN n ≤ 1099511627776) (σ : St) : HCalls Tryd.prog 28 [.agg (encN n)] σ (fun d σ' => d = .bool (rightN n) ∧ σ' = σ) := by
  refine hcalls_body (fn := Tryd.f28) rfl c28 (by simp [h28]) (by simp [h28, Tryd.f28]) ?_
  intro M hP hr hnt hnx hwf hlt
  simp only [h28, argEnv]
  refine hgo_sound 40 ?_
  simp -implicitDefEqProofs (maxSteps := 1000000) only [simpS, ↓condJ_true, ↓condJ_false, ↓reduceIte, Nat.reduceEqDiff, Nat.reduceLT, Nat.reduceLeDiff, reduceCtorEq, Nat.reduceAdd, Nat.reduceSub, listS, implies_true, forall_const, ne_eq, encN_length]
  refine hx_call (f := .fn 34) rfl (by
    rw [hP]
    exact hcallD_func (down_iter n hn (rightTk σ hwf n) (0, true) (.func 35 [.ptr (σ.next + 1) 0, .ptr (σ.next + 2) 0])
      (rightTk_oks _ _ _ _ _ (by simp) (by rw [preN_len]; simp only; omega) (fun x hx => by have := preN_kids 0 n x hx; omega)) (right_takes _ _ _))) ?_
  rintro d σ2 rfl
  rw [rightTk_run]
  refine hgo_sound 40 ?_
  simp -implicitDefEqProofs (maxSteps := 1000000) only [simpS, ↓condJ_true, ↓condJ_false, ↓reduceIte, Nat.reduceEqDiff, Nat.reduceLT, Nat.reduceLeDiff, reduceCtorEq, Nat.reduceAdd, Nat.reduceSub, listS, implies_true, forall_const, ne_eq, rightTk, rightS]
  refine fpost_pure (σ0 := σ) (.inr rfl) (by omega) hwf ((((Ext.refl σ).new _).new _).new _ |>.sub hwf) rfl trivial (by simp only [tupD, look, if_true, ↓reduceIte, D.lt]) ⟨?_, rfl⟩
  simp only [tupD, look, rightN, if_true, ↓reduceIte]
  cases (rightRun (0, true) (preN 0 n)).2 <;> rfl

theorem walk_calls (n : Nd) (σ : St) : HCalls Tryd.prog 38 [.agg (encN n)] σ (fun d σ' => d = .func 43 [.eptr (encN n) 0] ∧ σ' = σ) := by
  refine hcalls_body (fn := Tryd.f38) rfl c38 (by simp [h38]) (by simp [h38, Tryd.f38]) ?_
  intro M hP hr hnt hnx hwf hlt
  simp only [h38, argEnv]
  refine hgo_sound 60 ?_
  simp -implicitDefEqProofs (maxSteps := 1000000) only [simpS, ↓condJ_true, ↓condJ_false, ↓reduceIte, Nat.reduceEqDiff, Nat.reduceLT, Nat.reduceLeDiff, reduceCtorEq, Nat.reduceAdd, Nat.reduceSub, listS, implies_true, forall_const, ne_eq]
  refine fpost_frz [(σ.next, encN n)] false (.inr rfl) (by omega) hwf ((Ext.refl σ).new _ |>.sub hwf) rfl trivial (by simp [St.obj_new]) (by simp [tupD, frzD, frzL, lookF, look]) ?_ ⟨rfl, rfl⟩
  simpa [D.lt, ltL] using hlt

theorem leaves_calls (n : Nd) (σ : St) : HCalls Tryd.prog 29 [.agg (encN n)] σ (fun d σ' => d = .func 37 [.eptr (encN n) 0] ∧ σ' = σ) := by
  refine hcalls_body (fn := Tryd.f29) rfl c29 (by simp [h29]) (by simp [h29, Tryd.f29]) ?_
  intro M hP hr hnt hnx hwf hlt
  simp only [h29, argEnv]
  refine hgo_sound 60 ?_
  simp -implicitDefEqProofs (maxSteps := 1000000) only [simpS, ↓condJ_true, ↓condJ_false, ↓reduceIte, Nat.reduceEqDiff, Nat.reduceLT, Nat.reduceLeDiff, reduceCtorEq, Nat.reduceAdd, Nat.reduceSub, listS, implies_true, forall_const, ne_eq]
  refine fpost_frz [(σ.next, encN n)] false (.inr rfl) (by omega) hwf ((Ext.refl σ).new _ |>.sub hwf) rfl trivial (by simp [St.obj_new]) (by simp [tupD, frzD, frzL, lookF, look]) ?_ ⟨rfl, rfl⟩
  simpa [D.lt, ltL] using hlt

def walkN (n : Nd) : List (Int × Nd) := if rightN n then preN 0 n else []

theorem walk_iter (n : Nd) (hn : cntN n ≤ 1099511627776) : Iter Tryd.prog 43 (fun y => [y, .eptr (encN n) 0]) encX (walkN n) := by
  intro tk c y hok hy
  refine hcalls_body (fn := Tryd.f43) rfl c43 (by simp [h43]) (by simp [h43, Tryd.f43]) ?_
  intro M hP hr hnt hnx hwf hlt
  simp only [h43, argEnv]
  refine hgo_sound 14 ?_
  simp -implicitDefEqProofs (maxSteps := 1000000) only [simpS, ↓condJ_true, ↓condJ_false, ↓reduceIte, Nat.reduceEqDiff, Nat.reduceLT, Nat.reduceLeDiff, reduceCtorEq, Nat.reduceAdd, Nat.reduceSub, listS, implies_true, forall_const, ne_eq, encN_length]
  refine hx_call (f := .fn 28) rfl (by rw [hP]; exact hcallD_func (right_calls n hn _)) ?_
  rintro _ _ ⟨rfl, rfl⟩
  refine hgo_sound 14 ?_
  simp -implicitDefEqProofs (maxSteps := 1000000) only [simpS, ↓condJ_true, ↓condJ_false, ↓reduceIte, Nat.reduceEqDiff, Nat.reduceLT, Nat.reduceLeDiff, reduceCtorEq, Nat.reduceAdd, Nat.reduceSub, listS, implies_true, forall_const, ne_eq, encN_length]
  refine ⟨fun hb => ?_, fun hb => ?_⟩
  · have hw : walkN n = preN 0 n := by simp [walkN, hb]
    rw [hw] at hok ⊢
    refine hx_call (f := .fn 34) rfl (by rw [hP]; exact hcallD_func (down_iter n hn tk c y hok hy)) ?_
    rintro d σ2 rfl
    refine hgo_sound 10 ?_
    simp -implicitDefEqProofs (maxSteps := 1000000) only [simpS, ↓condJ_true, ↓condJ_false, ↓reduceIte, Nat.reduceEqDiff, Nat.reduceLT, Nat.reduceLeDiff, reduceCtorEq, Nat.reduceAdd, Nat.reduceSub, listS, implies_true, forall_const, ne_eq]
    exact fpost_pure (.inl rfl) (by rw [hnx, tk.next, tk.next]; exact Nat.le_refl _) (tk.wf _) (Sub.refl _) rfl trivial (by simp only [tupD, D.lt, ltL]) rfl
  · have hw : walkN n = [] := by simp [walkN, hb]
    rw [hw]
    exact fpost_pure (.inl rfl) (by rw [hnx]; exact Nat.le_refl _) (tk.wf _) (Sub.refl _) rfl trivial (by simp only [tupD, D.lt, ltL]) rfl

end Go.Hl
set_option linter.unusedSectionVars false
set_option linter.unusedVariables false
set_option linter.unusedSimpArgs false
set_option maxRecDepth 100000
namespace Go.Hl
open Go Go.Proofs

def encL (n : Nd) : List D := [.agg (encN n)]
def leavesL : List (Int × Nd) → List Nd
  | [] => []
  | (d, n) :: r => if n.kind = 1 then n :: leavesL r else leavesL r

def leafStep (tk : Tk Nd) (c : tk.C) (x : Int × Nd) : tk.C × Option HC :=
  if x.2.kind = 1 then ((tk.step c x.2).1, if (tk.step c x.2).2 then none else some .ret) else (c, none)

theorem leafStep_run (tk : Tk Nd) : ∀ (xs : List (Int × Nd)) (c : tk.C), rngRun (leafStep tk) c xs = ((tk.run c (leavesL xs)).1, if (tk.run c (leavesL xs)).2 then none else some .ret)
  | [], c => rfl
  | (d, x) :: xs, c => by
    by_cases hk : x.kind = 1
    · have hl : leavesL ((d, x) :: xs) = x :: leavesL xs := by simp [leavesL, hk]
      rw [hl]
      by_cases hb : (tk.step c x).2 = true
      · have hs : leafStep tk c (d, x) = ((tk.step c x).1, none) := by simp [leafStep, hk, hb]
        rw [Tk.run_true hb]
        simp only [rngRun, hs]
        exact leafStep_run tk xs _
      · have hs : leafStep tk c (d, x) = ((tk.step c x).1, some .ret) := by simp [leafStep, hk, hb]
        rw [Tk.run_false (by simpa using hb)]
        simp only [rngRun, hs]
        rfl
    · have hl : leavesL ((d, x) :: xs) = leavesL xs := by simp [leavesL, hk]
      have hs : leafStep tk c (d, x) = (c, none) := by simp [leafStep, hk]
      rw [hl]
      simp only [rngRun, hs]
      exact leafStep_run tk xs c

theorem leafStep_oks (tk : Tk Nd) : ∀ (xs : List (Int × Nd)) (c : tk.C), tk.oks c (leavesL xs) → rngOks (fun c (x : Int × Nd) => x.2.kind = 1 → tk.ok c x.2) (leafStep tk) c xs
  | [], c, _ => trivial
  | (d, x) :: xs, c, h => by
    by_cases hk : x.kind = 1
    · have hl : leavesL ((d, x) :: xs) = x :: leavesL xs := by simp [leavesL, hk]
      rw [hl] at h
      refine ⟨fun _ => h.1, fun hn => ?_⟩
      by_cases hb : (tk.step c x).2 = true
      · have hs : leafStep tk c (d, x) = ((tk.step c x).1, none) := by simp [leafStep, hk, hb]
        rw [hs]
        exact leafStep_oks tk xs _ (h.2 hb)
      · have hs : leafStep tk c (d, x) = ((tk.step c x).1, some .ret) := by simp [leafStep, hk, hb]
        rw [hs] at hn
        cases hn
    · have hl : leavesL ((d, x) :: xs) = leavesL xs := by simp [leavesL, hk]
      have hs : leafStep tk c (d, x) = (c, none) := by simp [leafStep, hk]
      rw [hl] at h
      refine ⟨fun h1 => absurd h1 hk, fun hn => ?_⟩
      rw [hs]
      exact leafStep_oks tk xs c h

theorem ltL_one {n : Nat} {d : D} (h : d.lt n) : ltL n [d] := ⟨h, trivial⟩

theorem leaves_iter (n : Nd) (hn : cntN n ≤ 1099511627776) : Iter Tryd.prog 37 (fun y => [y, .eptr (encN n) 0]) encL (leavesL (walkN n)) := by
  intro tk c y hok hy
  refine hcalls_body (fn := Tryd.f37) rfl c37 (by simp [h37]) (by simp [h37, Tryd.f37]) ?_
  intro M hP hr hnt hnx hwf hlt
  simp only [h37, argEnv]
  refine hgo_sound 20 ?_
  simp -implicitDefEqProofs (maxSteps := 1000000) only [simpS, ↓condJ_true, ↓condJ_false, ↓reduceIte, Nat.reduceEqDiff, Nat.reduceLT, Nat.reduceLeDiff, reduceCtorEq, Nat.reduceAdd, Nat.reduceSub, listS, implies_true, forall_const, ne_eq, hy.one, encN_length, tk.next]
  refine hx_call (f := .fn 38) rfl (by rw [hP]; exact hcallD_func (walk_calls n _)) ?_
  rintro _ σ2 ⟨rfl, rfl⟩
  refine hgo_sound 6 ?_
  simp -implicitDefEqProofs (maxSteps := 1000000) only [simpS, ↓condJ_true, ↓condJ_false, ↓reduceIte, Nat.reduceEqDiff, Nat.reduceLT, Nat.reduceLeDiff, reduceCtorEq, Nat.reduceAdd, Nat.reduceSub, listS, implies_true, forall_const, ne_eq]
  refine hx_know_code fun hw hl hn1 => ?_
  have hylt : y.lt (tk.N + 1) := D.lt_mono (Nat.le_succ _) _ hy.lt
  have hS : ∀ c, ((tk.T c).new (.box [y])).wf := fun c => (tk.wf c).box (ltL_one (by rw [tk.next]; exact hylt))
  refine hx_range_fold (fn := 43) (caps := [.eptr (encN n) 0]) (xs := walkN n) (enc := encX) (fun c => (tk.T c).new (.box [y]))
    (fun c (x : Int × Nd) => x.2.kind = 1 → tk.ok c x.2) (leafStep tk) c rfl (by rw [hP]; rfl) (fun _ _ h => by rw [hr] at h; cases h) (by rw [hP]; exact walk_iter n hn) rfl
    (fun c => by rw [St.next_new, St.next_new, tk.next, tk.next]) (fun c c' => tk.glob c c') hS hl (leafStep_oks tk _ _ hok) (fun _ => rfl) (by rw [hnt]; decide) ?_ ?_
  · -- a round
    rintro c1 ⟨dd, x⟩ τ hk1 hle hτ hgl M' hP' hnt' hr' hnx' hwf' hlt'
    simp only [St.next_new, tk.next, Nat.add_assoc, Nat.reduceAdd] at hle hk1 hl ⊢
    simp only [encX, putsE]
    have n1 : ¬ τ.next < tk.N + 2 := by omega
    have n2 : ¬ τ.next < tk.N + 1 := by omega
    refine hgo_sound 20 ?_
    simp -implicitDefEqProofs (maxSteps := 1000000) only [simpS, ↓condJ_true, ↓condJ_false, ↓reduceIte, Nat.reduceEqDiff, Nat.reduceLT, Nat.reduceLeDiff, reduceCtorEq, Nat.reduceAdd, Nat.reduceSub, listS, implies_true, forall_const, ne_eq, encN_length, tk.next, hle, n1, n2]
    by_cases hk : x.kind = 1
    · have hkd : (x.kind == 1) = true := by rw [hk]; rfl
      refine hgo_sound 40 ?_
      simp -implicitDefEqProofs (maxSteps := 1000000) only [simpS, ↓condJ_true, ↓condJ_false, ↓reduceIte, Nat.reduceEqDiff, Nat.reduceLT, Nat.reduceLeDiff, reduceCtorEq, Nat.reduceAdd, Nat.reduceSub, listS, implies_true, forall_const, ne_eq, encN_length, encN_kind, hkd, tk.next, hle, n1, n2]
      refine hx_call rfl (by rw [hP', hP]; exact hy.call c1 x _ ((((tk.low c1).new _).new _).of_mix (by omega) (by rw [St.next_new]; omega) hgl) (hk1 hk)) ?_
      rintro _ σ7 ⟨rfl, rfl⟩
      rw [mix_in (by omega), tk.mixT_new2]
      refine hgo_sound 30 ?_
      simp -implicitDefEqProofs (maxSteps := 1000000) only [simpS, ↓condJ_true, ↓condJ_false, ↓reduceIte, Nat.reduceEqDiff, Nat.reduceLT, Nat.reduceLeDiff, reduceCtorEq, Nat.reduceAdd, Nat.reduceSub, listS, implies_true, forall_const, ne_eq]
      refine ⟨fun hb => ?_, fun hb => ?_⟩
      · have hb' : (tk.step c1 x).2 = false := by simpa using hb
        have hs : leafStep tk c1 (dd, x) = ((tk.step c1 x).1, some .ret) := by simp [leafStep, hk, hb']
        rw [hs]
        exact round_ret rfl (by rw [St.next_new, tk.next]) (hS _) hl hτ hle ((Ext.refl τ).new _)
      · have hb' : (tk.step c1 x).2 = true := by simpa using hb
        have hs : leafStep tk c1 (dd, x) = ((tk.step c1 x).1, none) := by simp [leafStep, hk, hb']
        rw [hs]
        exact round_next rfl (by rw [St.next_new, tk.next]) (hS _) hl hτ hle ((Ext.refl τ).new _)
    · have hkd : (x.kind == 1) = false := by simpa using hk
      have hs : leafStep tk c1 (dd, x) = (c1, none) := by simp [leafStep, hk]
      refine hgo_sound 40 ?_
      simp -implicitDefEqProofs (maxSteps := 1000000) only [simpS, ↓condJ_true, ↓condJ_false, ↓reduceIte, Nat.reduceEqDiff, Nat.reduceLT, Nat.reduceLeDiff, reduceCtorEq, Nat.reduceAdd, Nat.reduceSub, listS, implies_true, forall_const, ne_eq, encN_length, encN_kind, hkd, tk.next, hle, n1, n2]
      try (refine hx_op_not (by rfl) (by rfl) ?_; refine hgo_sound 30 ?_; simp -implicitDefEqProofs (maxSteps := 1000000) only [simpS, ↓condJ_true, ↓condJ_false, ↓reduceIte, Nat.reduceEqDiff, Nat.reduceLT, Nat.reduceLeDiff, reduceCtorEq, Nat.reduceAdd, Nat.reduceSub, listS, implies_true, forall_const, ne_eq])
      rw [hs]
      exact round_next rfl (by rw [St.next_new, tk.next]) (hS c1) hl hτ hle ((Ext.refl τ).new _)
  · rw [leafStep_run]
    generalize tk.run c (leavesL (walkN n)) = rr
    obtain ⟨c', b'⟩ := rr
    have hsub : Sub (tk.T c') ((tk.T c').new (.box [y])).bump := ((Ext.refl (tk.T c')).new _).bump.sub (tk.wf c')
    cases b'
    · exact hx_ret (fpost_pure (.inr rfl) (by rw [hnx, tk.next, tk.next]; exact Nat.le_refl _) (tk.wf c') hsub rfl trivial (by simp only [tupD, D.lt, ltL]) rfl)
    · exact hx_inBlock (hx_nil (fpost_pure (.inl rfl) (by rw [hnx, tk.next, tk.next]; exact Nat.le_refl _) (tk.wf c') hsub rfl trivial (by simp only [tupD, D.lt, ltL]) rfl))

def standStep (c : Int × Bool) (x : Nd) : (Int × Bool) × Option HC :=
  if IntKind.i64.wrap (x.at_ - x.gap.size) = c.1 then ((IntKind.i64.wrap (x.at_ + x.text.size), c.2), none) else ((c.1, false), some .ret)

def standsN (n : Nd) (from_ : Int) : Bool := rightN n && (rngRun standStep (from_, false) (leavesL (walkN n))).2.isNone

theorem standStep_oks : ∀ (xs : List Nd) (c : Int × Bool), rngOks (fun _ _ => True) standStep c xs
  | [], c => trivial
  | x :: xs, c => ⟨trivial, fun _ => standStep_oks xs _⟩

theorem standStep_jump : ∀ (xs : List Nd) (c : Int × Bool), c.2 = false → (rngRun standStep c xs).1.2 = false ∧ ((rngRun standStep c xs).2 = none ∨ (rngRun standStep c xs).2 = some .ret)
  | [], c, h => ⟨h, .inl rfl⟩
  | x :: xs, c, h => by
    by_cases hs : IntKind.i64.wrap (x.at_ - x.gap.size) = c.1
    · have : standStep c x = ((IntKind.i64.wrap (x.at_ + x.text.size), c.2), none) := by simp only [standStep, hs, if_true]
      simp only [rngRun, this]
      exact standStep_jump xs _ h
    · have : standStep c x = ((c.1, false), some .ret) := by simp only [standStep, hs, if_false]
      simp only [rngRun, this]
      exact ⟨trivial, .inr trivial⟩

theorem stands_calls (n : Nd) (hn : cntN n ≤ 1099511627776) (z : Int) (σ : St) : HCalls Tryd.prog 21 [.agg (encN n), .int .i64 z] σ (fun d σ' => d = .bool (standsN n z) ∧ σ' = σ) := by
  refine hcalls_body (fn := Tryd.f21) rfl c21 (by simp [h21]) (by simp [h21, Tryd.f21]) ?_
  intro M hP hr hnt hnx hwf hlt
  simp only [h21, argEnv]
  refine hgo_sound 40 ?_
  simp -implicitDefEqProofs (maxSteps := 1000000) only [simpS, ↓condJ_true, ↓condJ_false, ↓reduceIte, Nat.reduceEqDiff, Nat.reduceLT, Nat.reduceLeDiff, reduceCtorEq, Nat.reduceAdd, Nat.reduceSub, listS, implies_true, forall_const, ne_eq, encN_length]
  refine hx_call (f := .fn 28) rfl (by rw [hP]; exact hcallD_func (right_calls n hn _)) ?_
  rintro _ σ2 ⟨rfl, rfl⟩
  have hS : ∀ c : Int × Bool, (((σ.new (.box (encN n))).new (.box [.int .i64 c.1])).new (.box [.bool c.2])).wf := fun c => ((hwf.box (encN_lt _ n)).box (cs := [.int .i64 c.1]) ⟨trivial, trivial⟩).box (cs := [.bool c.2]) ⟨trivial, trivial⟩
  have hsub : ∀ c : Int × Bool, Ext σ (((σ.new (.box (encN n))).new (.box [.int .i64 c.1])).new (.box [.bool c.2])) := fun c => (((Ext.refl σ).new _).new _).new _
  refine hgo_sound 40 ?_
  simp -implicitDefEqProofs (maxSteps := 1000000) only [simpS, ↓condJ_true, ↓condJ_false, ↓reduceIte, Nat.reduceEqDiff, Nat.reduceLT, Nat.reduceLeDiff, reduceCtorEq, Nat.reduceAdd, Nat.reduceSub, listS, implies_true, forall_const, ne_eq, encN_length]
  refine ⟨fun hb => ?_, fun hb => ?_⟩
  · have hb' : rightN n = false := by simpa using hb
    refine fpost_pure (.inr rfl) (by rw [hnx]; exact Nat.le_refl _) hwf ((hsub (z, false)).sub hwf) (resD_cell (d := .bool false) rfl (by simp [St.obj_new, St.next_new]) resD_nil) ⟨by omega, trivial⟩ trivial ⟨?_, rfl⟩
    simp [tupD, standsN, hb']
  · have hb' : rightN n = true := by simpa using hb
    refine hx_call (f := .fn 29) rfl (by rw [hP]; exact hcallD_func (leaves_calls n _)) ?_
    rintro _ σ2 ⟨rfl, rfl⟩
    refine hgo_sound 6 ?_
    simp -implicitDefEqProofs (maxSteps := 1000000) only [simpS, ↓condJ_true, ↓condJ_false, ↓reduceIte, Nat.reduceEqDiff, Nat.reduceLT, Nat.reduceLeDiff, reduceCtorEq, Nat.reduceAdd, Nat.reduceSub, listS, implies_true, forall_const, ne_eq]
    refine hx_know_code fun hw hl hn1 => ?_
    refine hx_range_fold (fn := 37) (caps := [.eptr (encN n) 0]) (xs := leavesL (walkN n)) (enc := encL) (fun c : Int × Bool => ((σ.new (.box (encN n))).new (.box [.int .i64 c.1])).new (.box [.bool c.2]))
      (fun _ _ => True) standStep (z, false) rfl (by rw [hP]; rfl) (fun _ _ h => by rw [hr] at h; cases h) (by rw [hP]; exact leaves_iter n hn) rfl
      (fun c => rfl) (fun c c' => rfl) hS hl (standStep_oks _ _) (fun _ => rfl) (by rw [hnt]; decide) ?_ ?_
    · rintro ⟨c1, b1⟩ x τ - hle hτ hgl M' hP' hnt' hr' hnx' hwf' hlt'
      simp only [St.next_new, Nat.add_assoc, Nat.reduceAdd] at hle hl ⊢
      simp only [encL, putsE]
      have n1 : ¬ τ.next < σ.next + 4 := by omega
      refine hgo_sound 20 ?_
      simp -implicitDefEqProofs (maxSteps := 1000000) only [simpS, ↓condJ_true, ↓condJ_false, ↓reduceIte, Nat.reduceEqDiff, Nat.reduceLT, Nat.reduceLeDiff, reduceCtorEq, Nat.reduceAdd, Nat.reduceSub, listS, implies_true, forall_const, ne_eq, encN_length, hle, n1]
      refine hgo_sound 80 ?_
      simp -implicitDefEqProofs (maxSteps := 1000000) only [simpS, ↓condJ_true, ↓condJ_false, ↓reduceIte, Nat.reduceEqDiff, Nat.reduceLT, Nat.reduceLeDiff, reduceCtorEq, Nat.reduceAdd, Nat.reduceSub, listS, implies_true, forall_const, ne_eq, encN_length, encN_at, encN_gap, encN_text, hle, n1]
      by_cases hk : IntKind.i64.wrap (x.at_ - x.gap.size) = c1
      · have hs : standStep (c1, b1) x = ((IntKind.i64.wrap (x.at_ + x.text.size), b1), none) := by simp only [standStep, hk, if_true]
        have hk1 : (IntKind.i64.wrap (x.at_ - x.gap.size) != c1) = false := by simp [hk]
        rw [hk1, hs]
        refine ⟨fun h => (by cases h), fun _ => ?_⟩
        exact round_next rfl rfl (hS (_, b1)) hl hτ hle ((Ext.refl τ).new _)
      · have hs : standStep (c1, b1) x = ((c1, false), some .ret) := by simp only [standStep, hk, if_false]
        have hk1 : (IntKind.i64.wrap (x.at_ - x.gap.size) != c1) = true := by simp [hk]
        rw [hk1, hs]
        refine ⟨fun _ => ?_, fun h => by cases h⟩
        exact round_ret rfl rfl (hS (c1, false)) hl hτ hle ((Ext.refl τ).new _)
    · have hj := standStep_jump (leavesL (walkN n)) (z, false) rfl
      have hd : standsN n z = (rngRun standStep (z, false) (leavesL (walkN n))).2.isNone := by simp [standsN, hb']
      rw [hd]
      generalize hrr : rngRun standStep (z, false) (leavesL (walkN n)) = rr at hj ⊢
      obtain ⟨⟨c', b'⟩, j⟩ := rr
      obtain ⟨rfl, hj⟩ := hj
      rcases hj with rfl | rfl
      · refine hx_inBlock ?_
        refine hgo_sound 40 ?_
        simp -implicitDefEqProofs (maxSteps := 1000000) only [simpS, ↓condJ_true, ↓condJ_false, ↓reduceIte, Nat.reduceEqDiff, Nat.reduceLT, Nat.reduceLeDiff, reduceCtorEq, Nat.reduceAdd, Nat.reduceSub, listS, implies_true, forall_const, ne_eq]
        exact fpost_pure (.inr rfl) (by rw [hnx]; exact Nat.le_refl _) hwf ((hsub (c', true)).bump.sub hwf) (resD_cell (d := .bool true) rfl (by simp [St.obj_new, St.next_new, St.obj_bump]) resD_nil) ⟨by omega, trivial⟩ trivial ⟨rfl, rfl⟩
      · exact hx_ret (fpost_pure (.inr rfl) (by rw [hnx]; exact Nat.le_refl _) hwf ((hsub (c', false)).bump.sub hwf) (resD_cell (d := .bool false) rfl (by simp [St.obj_new, St.next_new, St.obj_bump]) resD_nil) ⟨by omega, trivial⟩ trivial ⟨rfl, rfl⟩)

end Go.Hl
set_option linter.unusedSectionVars false
set_option linter.unusedVariables false
namespace Go.Hl
open Go

def valV (vals : List D) : Nat → D := fun j => vals.getD j .undef

theorem useV_congr {nt : Nat} {env : Env} {V V' : Nat → D} : ∀ {us : List (Nat × Nat)}, (∀ u ∈ us, nt ≤ u.2 → V (u.2 - nt) = V' (u.2 - nt)) → useV nt env V us = useV nt env V' us
  | [], _ => rfl
  | u :: us, h => by
    simp only [useV, List.map_cons]
    have h1 := useV_congr (nt := nt) (env := env) (us := us) fun x hx => h x (List.mem_cons_of_mem _ hx)
    simp only [useV] at h1
    rw [h1]
    congr 2
    split
    · rfl
    · exact h u (List.mem_cons_self ..) (by omega)

theorem dFinV_congr {V V' : Nat → D} : ∀ {ds : List DI} {i : Nat} {e : Env}, (∀ j, j < ds.length → V (i + j) = V' (i + j)) → dFinV V i ds e = dFinV V' i ds e
  | [], _, _, _ => rfl
  | d :: ds, i, e, h => by
    have h0 := h 0 (by simp)
    have h1 : ∀ e, dFinV V (i + 1) ds e = dFinV V' (i + 1) ds e := fun e => dFinV_congr fun j hj => by
      have := h (j + 1) (by simp; omega)
      rwa [show i + 1 + j = i + (j + 1) by omega]
    simp only [Nat.add_zero] at h0
    simp only [dFinV, h0, h1]

theorem allD_intro {F : Nat → DI → Prop} : ∀ {ds : List DI} {i : Nat}, (∀ (j : Nat) d, ds[j]? = some d → F (i + j) d) → allD i ds F
  | [], _, _ => trivial
  | d :: ds, i, h => ⟨by simpa using h 0 d rfl, allD_intro fun j d' hj => by
      have := h (j + 1) d' (by simpa using hj)
      rwa [show i + 1 + j = i + (j + 1) by omega]⟩

theorem goV_of_step {P : Program} {e : Env} {d : DI} {σ : St} {F Next : Go.Hl.D → St → Prop} (h : StepV P e d σ Next) (hF : ∀ x s, Next x s → F x s) : goV P e d σ F := by
  unfold goV
  cases h with
  | op hg hst hp =>
    rw [hg]
    show opH _ _ _
    unfold opH
    split
    · rename_i hop
      rw [hop] at hst
      cases hst
    · rw [hst]
      exact ⟨hp, hF _ _ ⟨rfl, rfl⟩⟩
  | not hg =>
    rw [hg]
    exact hF _ _ ⟨rfl, rfl⟩
  | call hop hg hc =>
    rw [hg, hop]
    exact ⟨_, _, _, rfl, hc, hF⟩

theorem goV_mono {P : Program} {e : Env} {d : DI} {σ : St} {F G : Go.Hl.D → St → Prop} (h : goV P e d σ F) (hfg : ∀ x s, F x s → G x s) : goV P e d σ G := by
  obtain ⟨Next, h1, h2⟩ := goV_step h
  exact goV_of_step h1 fun x s hx => hfg x s (h2 x s hx)

section
variable {M : Md} {base : HPost} {kont : List It} {D : List DI} {env : Env} {σ : St}

theorem hx_drawK (vals : List Go.Hl.D) (st : (Nat → Bool) → St) (hu : (D.all fun d => d.uses.all fun u => decide (u.2 < M.nt) || d.anc.testBit (u.2 - M.nt)) = true) (h0 : st (fun _ => false) = σ)
    (hs : ∀ L, (∀ i d, D[i]? = some d → L i = true → ∀ j, d.anc.testBit j = true → L j = true) → allD 0 D fun i d => L i = false → (∀ j, d.anc.testBit j = true → L j = true) →
      goV M.P (useV M.nt env (valV vals) d.uses) d (st L) fun x σ' => x = valV vals i ∧ σ' = st (upd L i true))
    (hfin : ∀ L, (∀ i, i < D.length → L i = true) → HX M base kont (dFinV (valV vals) 0 D (lowE M.nt env)) (st L)) : HX M base (.code (.draw D) :: kont) env σ := by
  refine hx_drawS (fun L V σ' => (∀ j, L j = true → V j = valV vals j) ∧ σ' = st L ∧ (∀ i d, D[i]? = some d → L i = true → ∀ j, d.anc.testBit j = true → L j = true))
    ⟨(fun _ h => by cases h), h0.symm, (fun _ _ _ h => by cases h)⟩ ?_ ?_
  · rintro L V σ' ⟨hV, rfl, hC⟩
    have h1 := hs L hC
    refine allD_intro fun i d hd hi ha => ?_
    rw [Nat.zero_add] at hi ⊢
    have h2 := allD_spec h1 i d hd
    rw [Nat.zero_add] at h2
    have he : useV M.nt env V d.uses = useV M.nt env (valV vals) d.uses := useV_congr fun u hu' hn => by
      have h3 := List.all_eq_true.1 hu d (List.mem_of_getElem? hd)
      have h4 := List.all_eq_true.1 h3 u hu'
      simp only [Bool.or_eq_true, decide_eq_true_eq] at h4
      rcases h4 with h4 | h4
      · omega
      · exact hV _ (ha _ h4)
    rw [he]
    refine goV_mono (h2 hi ha) ?_
    rintro x s ⟨rfl, rfl⟩
    refine ⟨fun j hj => ?_, rfl, fun k dk hk hLk j hj => ?_⟩
    · simp only [upd] at hj ⊢
      split
      · rename_i e; rw [e]
      · rename_i e; rw [if_neg e] at hj; exact hV j hj
    · simp only [upd] at hLk ⊢
      split
      · rfl
      · rename_i e
        split at hLk
        · rename_i e2
          subst e2
          obtain rfl := Option.some.inj (hd.symm.trans hk)
          exact ha j hj
        · exact hC k dk hk hLk j hj
  · rintro L V σ' hall ⟨hV, rfl, _⟩
    rw [dFinV_congr (V' := valV vals) fun j hj => by rw [Nat.zero_add]; exact hV j (hall j hj)]
    exact hfin L hall

end

end Go.Hl
set_option linter.unusedSectionVars false
set_option linter.unusedVariables false
set_option linter.unusedSimpArgs false
set_option maxRecDepth 100000
namespace Go.Hl
open Go Go.Proofs Go.RowKit

def textL : List Nd → ByteArray
  | [] => ⟨#[]⟩
  | n :: ns => n.gap ++ n.text ++ textL ns

def textLen : List Nd → Nat
  | [] => 0
  | n :: ns => n.gap.size + n.text.size + textLen ns

def ttStep (c : ByteArray × Bool) (x : Nd) : (ByteArray × Bool) × Option HC := ((c.1 ++ x.gap ++ x.text, true), none)
def textS (σ : St) (n : Nd) (c : ByteArray × Bool) : St := ((σ.new (.box (encN n))).new (.bx (some 69) [addrB (σ.next + 1) c.2, .slice (.tok (σ.next + 2)) 1 (bytesL c.1)])).new (.tok 5 c.1.size)

theorem ttStep_run : ∀ (xs : List Nd) (c : ByteArray × Bool), rngRun ttStep c xs = ((c.1 ++ textL xs, c.2 || !xs.isEmpty), none)
  | [], c => by
    simp only [rngRun, textL, List.isEmpty_nil, Bool.not_true, Bool.or_false]
    rw [show c.1 ++ (⟨#[]⟩ : ByteArray) = c.1 from ByteArray.append_empty]
  | x :: xs, c => by
    simp only [rngRun, ttStep]
    rw [ttStep_run xs]
    simp [textL, ByteArray.append_assoc]

theorem ttStep_oks : ∀ (xs : List Nd) (c : ByteArray × Bool), c.1.size + textLen xs ≤ 1099511627776 → rngOks (fun (c : ByteArray × Bool) (x : Nd) => c.1.size + x.gap.size + x.text.size ≤ 1099511627776) ttStep c xs
  | [], c, _ => trivial
  | x :: xs, c, h => by
    simp only [textLen] at h
    refine ⟨by show _ ≤ _; omega, fun _ => ttStep_oks xs _ ?_⟩
    simp only [ttStep, ByteArray.size_append]
    omega

theorem textS_wf {σ : St} (hwf : σ.wf) (n : Nd) (c : ByteArray × Bool) : (textS σ n c).wf := by
  refine (hwf.box (encN_lt _ n)).new2 (show ltL _ [addrB (σ.next + 1) c.2, .slice (.tok (σ.next + 2)) 1 (bytesL c.1)] from ⟨?_, ⟨?_, bytesL_lt _ _⟩, trivial⟩) trivial
  · cases c.2
    · trivial
    · simp only [addrB, D.lt, St.next_new]; omega
  · simp only [Own.lt, St.next_new]; omega

theorem text_calls (n : Nd) (hn : cntN n ≤ 1099511627776) (hl : textLen (leavesL (walkN n)) ≤ 1099511627776) (σ : St) : HCalls Tryd.prog 22 [.agg (encN n)] σ (fun d σ' => d = .str (textL (leavesL (walkN n))) ∧ σ' = σ) := by
  refine hcalls_body (fn := Tryd.f22) rfl c22 (by simp [h22]) (by simp [h22, Tryd.f22]) ?_
  intro M hP hr hnt hnx hwf hlt
  simp only [h22, argEnv]
  refine hgo_sound 40 ?_
  simp -implicitDefEqProofs (maxSteps := 1000000) only [simpS, ↓condJ_true, ↓condJ_false, ↓reduceIte, Nat.reduceEqDiff, Nat.reduceLT, Nat.reduceLeDiff, reduceCtorEq, Nat.reduceAdd, Nat.reduceSub, noneS, listS, implies_true, forall_const, ne_eq, encN_length]
  refine hx_full_box (id := σ.next + 1) (j := 1) (cs := [.nilp, .slice .nil 0 []]) (ot := some 69) 5 1 (by simp -implicitDefEqProofs (maxSteps := 1000000) only [simpS, ↓condJ_true, ↓condJ_false, ↓reduceIte, Nat.reduceEqDiff, Nat.reduceLT, Nat.reduceLeDiff, reduceCtorEq, Nat.reduceAdd, Nat.reduceSub, noneS, listS, implies_true, forall_const, ne_eq]) rfl ?_ (fun _ e => by cases e) (fun _ e => by cases e)
  refine hx_call (f := .fn 29) rfl (by rw [hP]; exact hcallD_func (leaves_calls n _)) ?_
  rintro _ σ2 ⟨rfl, rfl⟩
  refine hgo_sound 6 ?_
  simp -implicitDefEqProofs (maxSteps := 1000000) only [simpS, ↓condJ_true, ↓condJ_false, ↓reduceIte, Nat.reduceEqDiff, Nat.reduceLT, Nat.reduceLeDiff, reduceCtorEq, Nat.reduceAdd, Nat.reduceSub, noneS, listS, implies_true, forall_const, ne_eq]
  refine hx_know_code fun hw hl1 hn1 => ?_
  have hsub : ∀ c, Ext σ (textS σ n c) := fun c => (((Ext.refl σ).new _).new _).new _
  refine hx_range_fold (fn := 37) (caps := [.eptr (encN n) 0]) (xs := leavesL (walkN n)) (enc := encL) (textS σ n)
    (fun (c : ByteArray × Bool) (x : Nd) => c.1.size + x.gap.size + x.text.size ≤ 1099511627776) ttStep (⟨#[]⟩, false) rfl (by rw [hP]; rfl) (fun _ _ h => by rw [hr] at h; cases h) (by rw [hP]; exact leaves_iter n hn) rfl
    (fun c => rfl) (fun c c' => rfl) (textS_wf hwf n) hl1 (ttStep_oks _ _ (by show 0 + _ ≤ _; omega)) (fun _ => rfl) (by rw [hnt]; decide) ?_ ?_
  · rintro ⟨s, b⟩ x τ hk hle hτ hgl M' hP' hnt' hr' hnx' hwf' hlt'
    simp only [St.next_new, Nat.add_assoc, Nat.reduceAdd] at hle hl1 hk ⊢
    simp only [encL, putsE, textS]
    have n1 : ¬ τ.next < σ.next + 4 := by omega
    refine hgo_sound 20 ?_
    simp -implicitDefEqProofs (maxSteps := 1000000) only [simpS, ↓condJ_true, ↓condJ_false, ↓reduceIte, Nat.reduceEqDiff, Nat.reduceLT, Nat.reduceLeDiff, reduceCtorEq, Nat.reduceAdd, Nat.reduceSub, noneS, listS, implies_true, forall_const, ne_eq, encN_length, hle, n1]
    refine hgo_sound 20 ?_
    simp -implicitDefEqProofs (maxSteps := 1000000) only [simpS, ↓condJ_true, ↓condJ_false, ↓reduceIte, Nat.reduceEqDiff, Nat.reduceLT, Nat.reduceLeDiff, reduceCtorEq, Nat.reduceAdd, Nat.reduceSub, noneS, listS, implies_true, forall_const, ne_eq, encN_length, encN_gap, hle, n1]
    refine hx_call (f := .fn 30) rfl (by
      rw [hP', hP]
      exact hcallD_func (writeString_calls (σ.next + 1) (σ.next + 2) s.size (addrB (σ.next + 1) b) s x.gap (by cases b; exact .inl rfl; exact .inr rfl) _ (by simp -implicitDefEqProofs (maxSteps := 1000000) only [simpS, ↓condJ_true, ↓condJ_false, ↓reduceIte, Nat.reduceEqDiff, Nat.reduceLT, Nat.reduceLeDiff, reduceCtorEq, Nat.reduceAdd, Nat.reduceSub, noneS, listS, implies_true, forall_const, ne_eq]) (by omega) (by simp -implicitDefEqProofs (maxSteps := 1000000) only [simpS, ↓condJ_true, ↓condJ_false, ↓reduceIte, Nat.reduceEqDiff, Nat.reduceLT, Nat.reduceLeDiff, reduceCtorEq, Nat.reduceAdd, Nat.reduceSub, noneS, listS, implies_true, forall_const, ne_eq]) rfl (by omega))) ?_
    rintro _ σ2 rfl
    refine hgo_sound 20 ?_
    simp -implicitDefEqProofs (maxSteps := 1000000) only [simpS, ↓condJ_true, ↓condJ_false, ↓reduceIte, Nat.reduceEqDiff, Nat.reduceLT, Nat.reduceLeDiff, reduceCtorEq, Nat.reduceAdd, Nat.reduceSub, noneS, listS, implies_true, forall_const, ne_eq, encN_length, encN_text, hle, n1]
    refine hx_call (f := .fn 30) rfl (by
      rw [hP', hP]
      exact hcallD_func (writeString_calls (σ.next + 1) (σ.next + 2) (s.size + x.gap.size) (.ptr (σ.next + 1) 0) (s ++ x.gap) x.text (.inr rfl) _ (by simp -implicitDefEqProofs (maxSteps := 1000000) only [simpS, ↓condJ_true, ↓condJ_false, ↓reduceIte, Nat.reduceEqDiff, Nat.reduceLT, Nat.reduceLeDiff, reduceCtorEq, Nat.reduceAdd, Nat.reduceSub, noneS, listS, implies_true, forall_const, ne_eq]) (by omega) (by simp -implicitDefEqProofs (maxSteps := 1000000) only [simpS, ↓condJ_true, ↓condJ_false, ↓reduceIte, Nat.reduceEqDiff, Nat.reduceLT, Nat.reduceLeDiff, reduceCtorEq, Nat.reduceAdd, Nat.reduceSub, noneS, listS, implies_true, forall_const, ne_eq]) ByteArray.size_append.symm (by rw [ByteArray.size_append]; omega))) ?_
    rintro _ σ3 rfl
    refine hgo_sound 20 ?_
    simp -implicitDefEqProofs (maxSteps := 1000000) only [simpS, ↓condJ_true, ↓condJ_false, ↓reduceIte, Nat.reduceEqDiff, Nat.reduceLT, Nat.reduceLeDiff, reduceCtorEq, Nat.reduceAdd, Nat.reduceSub, noneS, listS, implies_true, forall_const, ne_eq, encN_length, encN_text, hle, n1]
    refine round_next ?_ rfl (textS_wf hwf n _) hl1 hτ hle ((Ext.refl τ).new _)
    simp only [textS, ttStep, addrB, ByteArray.size_append, Nat.add_assoc]
  · rw [ttStep_run]
    refine hx_inBlock ?_
    refine hgo_sound 20 ?_
    simp -implicitDefEqProofs (maxSteps := 1000000) only [simpS, ↓condJ_true, ↓condJ_false, ↓reduceIte, Nat.reduceEqDiff, Nat.reduceLT, Nat.reduceLeDiff, reduceCtorEq, Nat.reduceAdd, Nat.reduceSub, noneS, listS, implies_true, forall_const, ne_eq, textS]
    have he : (⟨#[]⟩ : ByteArray) ++ textL (leavesL (walkN n)) = textL (leavesL (walkN n)) := ByteArray.empty_append
    have hsz : ∀ l, (textL l).size = textLen l := fun l => by
      induction l with
      | nil => rfl
      | cons x xs ih => simp only [textL, textLen, ByteArray.size_append, ih]
    rw [he]
    refine hx_call (f := .fn 31) rfl (by
      rw [hP]
      exact hcallD_func (bstring_calls (σ.next + 1) (σ.next + 2) (textL (leavesL (walkN n))).size _ (textL (leavesL (walkN n))) _ (by simp -implicitDefEqProofs (maxSteps := 1000000) only [simpS, ↓condJ_true, ↓condJ_false, ↓reduceIte, Nat.reduceEqDiff, Nat.reduceLT, Nat.reduceLeDiff, reduceCtorEq, Nat.reduceAdd, Nat.reduceSub, noneS, listS, implies_true, forall_const, ne_eq]; rfl) (by simp -implicitDefEqProofs (maxSteps := 1000000) only [simpS, ↓condJ_true, ↓condJ_false, ↓reduceIte, Nat.reduceEqDiff, Nat.reduceLT, Nat.reduceLeDiff, reduceCtorEq, Nat.reduceAdd, Nat.reduceSub, noneS, listS, implies_true, forall_const, ne_eq]) rfl (by rw [hsz]; omega))) ?_
    rintro _ σ3 ⟨rfl, rfl⟩
    refine hgo_sound 20 ?_
    simp -implicitDefEqProofs (maxSteps := 1000000) only [simpS, ↓condJ_true, ↓condJ_false, ↓reduceIte, Nat.reduceEqDiff, Nat.reduceLT, Nat.reduceLeDiff, reduceCtorEq, Nat.reduceAdd, Nat.reduceSub, noneS, listS, implies_true, forall_const, ne_eq]
    exact fpost_pure (.inr rfl) (by rw [hnx]; exact Nat.le_refl _) hwf ((hsub (textL (leavesL (walkN n)), _)).bump.sub hwf) rfl trivial trivial ⟨rfl, rfl⟩

theorem token_calls (g t : ByteArray) (a : Int) (σ : St) : HCalls Tryd.prog 33 [.str g, .str t, .int .i64 a] σ (fun d σ' => d = .agg (encN (.mk 1 g t a [])) ∧ σ' = σ) := by
  refine hcalls_body (fn := Tryd.f33) rfl c33 (by simp [h33]) (by simp [h33, Tryd.f33]) ?_
  intro M hP hr hnt hnx hwf hlt
  simp only [h33, argEnv]
  refine hgo_sound 40 ?_
  simp -implicitDefEqProofs (maxSteps := 1000000) only [simpS, ↓condJ_true, ↓condJ_false, ↓reduceIte, Nat.reduceEqDiff, Nat.reduceLT, Nat.reduceLeDiff, reduceCtorEq, Nat.reduceAdd, Nat.reduceSub, noneS, listS, implies_true, forall_const, ne_eq]
  refine fpost_wk (ds := [.agg [.int .i64 1, .str g, .str t, .int .i64 a, .slice .nil 0 []]]) (.agg (.cons (.refl _) (.cons (.refl _) (.cons (.refl _) (.cons (.refl _) (.cons .nil .nil)))))) (.inr rfl) (by omega) hwf (((Ext.refl σ).new _).sub hwf) (resD_cellS rfl (by simp [St.obj_new]; rfl) rfl resD_nil) ⟨by simp, trivial⟩ ⟨trivial, trivial, trivial, trivial, ⟨trivial, trivial⟩, trivial⟩ ⟨rfl, rfl⟩

theorem clone_calls (ks : List Nd) (o : Own) (hl : ks.length ≤ 1099511627776) (σ : St) : HCalls Tryd.prog 27 [.slice o 5 (encNs ks)] σ (fun d σ' => d = .slice .no 5 (encNs ks) ∧ σ' = σ) := by
  refine hcalls_body (fn := Tryd.f27) rfl c27 (by simp [h27]) (by simp [h27, Tryd.f27]) ?_
  intro M hP hr hnt hnx hwf hlt
  simp only [h27, argEnv]
  refine hgo_sound 40 ?_
  simp -implicitDefEqProofs (maxSteps := 1000000) only [simpS, ↓condJ_true, ↓condJ_false, ↓reduceIte, Nat.reduceEqDiff, Nat.reduceLT, Nat.reduceLeDiff, reduceCtorEq, Nat.reduceAdd, Nat.reduceSub, noneS, listS, implies_true, forall_const, ne_eq]
  refine hx_eqSl rfl fun b hb => ?_
  have hb1 : (encNs ks).length * 72 ≤ 140737488355328 := by rw [encNs_length]; omega
  have hb2 : (encNs ks).length ≤ 9223372036854775807 := by rw [encNs_length]; omega
  refine hgo_sound 40 ?_
  simp -implicitDefEqProofs (maxSteps := 1000000) only [simpS, ↓condJ_true, ↓condJ_false, ↓reduceIte, Nat.reduceEqDiff, Nat.reduceLT, Nat.reduceLeDiff, reduceCtorEq, Nat.reduceAdd, Nat.reduceSub, noneS, listS, implies_true, forall_const, ne_eq, hb1, hb2]
  refine ⟨fun h => ?_, fun h => ?_⟩
  · have h0 := hb h
    rw [h0]
    exact fpost_wk (ds := [.slice .nil 0 []]) (d := .slice .no 5 []) .nil (.inr rfl) (by omega) hwf (Sub.refl σ) rfl trivial ⟨trivial, trivial⟩ ⟨rfl, rfl⟩
  · exact fpost_pure (σ0 := σ) (.inr rfl) (by omega) hwf (Sub.refl σ) rfl trivial ⟨trivial, encNs_lt _ ks⟩ ⟨rfl, rfl⟩

theorem make_calls (k : Int) (ks : List Nd) (o : Own) (hl : ks.length ≤ 1099511627776) (σ : St) : HCalls Tryd.prog 20 [.int .i64 k, .slice o 5 (encNs ks)] σ (fun d σ' => d = .agg (encN (.mk k ⟨#[]⟩ ⟨#[]⟩ 0 ks)) ∧ σ' = σ) := by
  refine hcalls_body (fn := Tryd.f20) rfl c20 (by simp [h20]) (by simp [h20, Tryd.f20]) ?_
  intro M hP hr hnt hnx hwf hlt
  simp only [h20, argEnv]
  refine hgo_sound 40 ?_
  simp -implicitDefEqProofs (maxSteps := 1000000) only [simpS, ↓condJ_true, ↓condJ_false, ↓reduceIte, Nat.reduceEqDiff, Nat.reduceLT, Nat.reduceLeDiff, reduceCtorEq, Nat.reduceAdd, Nat.reduceSub, noneS, listS, implies_true, forall_const, ne_eq]
  refine hx_call (f := .fn 27) rfl (by rw [hP]; exact hcallD_func (clone_calls ks o hl _)) ?_
  rintro _ σ2 ⟨rfl, rfl⟩
  refine hgo_sound 40 ?_
  simp -implicitDefEqProofs (maxSteps := 1000000) only [simpS, ↓condJ_true, ↓condJ_false, ↓reduceIte, Nat.reduceEqDiff, Nat.reduceLT, Nat.reduceLeDiff, reduceCtorEq, Nat.reduceAdd, Nat.reduceSub, noneS, listS, implies_true, forall_const, ne_eq]
  exact fpost_pure (σ0 := σ) (ds := [.agg (encN (.mk k ⟨#[]⟩ ⟨#[]⟩ 0 ks))]) (.inr rfl) (by omega) hwf (((Ext.refl σ).new _).sub hwf) (resD_cellS (ot := none) rfl (by simp [St.obj_new, encN]) rfl resD_nil) ⟨by rw [encN_length]; omega, trivial⟩ (encN_lt _ (.mk k ⟨#[]⟩ ⟨#[]⟩ 0 ks)) ⟨rfl, rfl⟩

end Go.Hl
set_option linter.unusedSectionVars false
set_option linter.unusedVariables false
set_option linter.unusedSimpArgs false
set_option maxRecDepth 100000
namespace Go.Hl
open Go Go.Proofs Go.RowKit

structure Cu where
  s : ByteArray
  L : List Tk3
  n : Nat
  la : Nat
  dp : Nat
  at_ : Nat
  er : Nat

abbrev encC (c : Cu) : List D := [.str c.s, .slice .no 3 (encTk c.L), .int .i64 (c.n : Int), .int .i64 (c.la : Int), .int .i64 (c.dp : Int), .int .i64 (c.at_ : Int), .int .i64 (c.er : Int)]

structure Cu.ok (c : Cu) : Prop where
  small : c.s.size ≤ 4000
  len : c.L.length ≤ c.s.size
  in_ : ∀ x ∈ c.L, x.f ≤ x.t ∧ x.t ≤ c.s.size
  next : c.n ≤ c.L.length
  last : c.la ≤ c.s.size
  lastf : ∀ x, c.L[c.n]? = some x → c.la ≤ x.f

def leftC (c : Cu) : Nat := if c.er = 0 then c.L.length - c.n else 0

theorem left_calls (id : Nat) (c : Cu) (hc : c.ok) (σ : St) (ho : σ.obj id = some (.box (encC c))) : HCalls Tryd.prog 15 [.ptr id 0] σ (fun d σ' => d = .int .i64 (leftC c : Int) ∧ σ' = σ) := by
  refine hcalls_body (fn := Tryd.f15) rfl c15 (by simp [h15]) (by simp [h15, Tryd.f15]) ?_
  intro M hP hr hnt hnx hwf hlt
  simp only [h15, argEnv]
  have hnt' : M.nt = 22 := hnt
  have hnx := hc.next
  by_cases he : c.er = 0
  · have e1 : ((c.er : Int) != 0) = false := by rw [he]; rfl
    have hw : IntKind.i64.wrap ((c.L.length : Int) - (c.n : Int)) = ((c.L.length - c.n : Nat) : Int) := by
      have := hc.len; have := hc.small
      rw [IntWalk.i64_in _ (by omega)]; omega
    have hl : leftC c = c.L.length - c.n := by unfold leftC; rw [if_pos he]
    rw [hl]
    refine hgo_sound 90 ?_
    simp -implicitDefEqProofs (maxSteps := 1000000) only [simpS, ↓condJ_true, ↓condJ_false, ↓reduceIte, Nat.reduceEqDiff, Nat.reduceLT, Nat.reduceLeDiff, reduceCtorEq, Nat.reduceAdd, Nat.reduceSub, noneS, listS, implies_true, forall_const, ne_eq, ho, e1]
    refine hx_drawgo 1 ?_
    simp -implicitDefEqProofs (maxSteps := 100000000) only [drawS, listS, List.getElem?_cons_zero, List.getElem?_cons_succ, List.getElem?_nil, simpS, ↓condJ_true, ↓condJ_false, ↓reduceIte, Nat.reduceEqDiff, Nat.reduceLT, Nat.reduceLeDiff, reduceCtorEq, Nat.reduceAdd, Nat.reduceSub, noneS, listS, implies_true, forall_const, ne_eq, hnt', ho, e1, encTk_length, hw]
    refine hgo_sound 60 ?_
    simp -implicitDefEqProofs (maxSteps := 1000000) only [simpS, ↓condJ_true, ↓condJ_false, ↓reduceIte, Nat.reduceEqDiff, Nat.reduceLT, Nat.reduceLeDiff, reduceCtorEq, Nat.reduceAdd, Nat.reduceSub, noneS, listS, implies_true, forall_const, ne_eq]
    exact fpost_keep (.inr rfl) rfl trivial (fun _ => trivial) fun hw => ⟨rfl, rfl⟩
  · have e1 : ((c.er : Int) != 0) = true := by simp; omega
    have hl : leftC c = 0 := by unfold leftC; rw [if_neg he]
    rw [hl]
    refine hgo_sound 90 ?_
    simp -implicitDefEqProofs (maxSteps := 1000000) only [simpS, ↓condJ_true, ↓condJ_false, ↓reduceIte, Nat.reduceEqDiff, Nat.reduceLT, Nat.reduceLeDiff, reduceCtorEq, Nat.reduceAdd, Nat.reduceSub, noneS, listS, implies_true, forall_const, ne_eq, ho, e1]
    exact fpost_keep (.inr rfl) rfl trivial (fun _ => trivial) fun hw => ⟨rfl, rfl⟩

def peekC (c : Cu) (a : Int) : Nat × ByteArray :=
  if 0 ≤ a ∧ a < (leftC c : Int) then ((c.L.getD (c.n + a.toNat) ⟨0, 0, 0⟩).k, textT c.s (c.L.getD (c.n + a.toNat) ⟨0, 0, 0⟩)) else (0, ⟨#[]⟩)

theorem leftC_lt {c : Cu} {j : Nat} (h : j < leftC c) : c.er = 0 ∧ c.n + j < c.L.length := by
  unfold leftC at h
  split at h
  · rename_i e; exact ⟨e, by omega⟩
  · omega

theorem peek_calls (id : Nat) (c : Cu) (hc : c.ok) (a : Int) (σ : St) (ho : σ.obj id = some (.box (encC c))) : HCalls Tryd.prog 13 [.ptr id 0, .int .i64 a] σ (fun d σ' => d = .tuple [.int .i64 ((peekC c a).1 : Int), .str (peekC c a).2] ∧ σ' = σ) := by
  refine hcalls_body (fn := Tryd.f13) rfl c13 (by simp [h13]) (by simp [h13, Tryd.f13]) ?_
  intro M hP hr hnt hnx hwf hlt
  simp only [h13, argEnv]
  have hnt' : M.nt = 35 := hnt
  by_cases h0 : 0 ≤ a
  · have d0 : decide (a < 0) = false := decide_eq_false (by omega)
    refine hgo_sound 60 ?_
    simp -implicitDefEqProofs (maxSteps := 1000000) only [simpS, ↓condJ_true, ↓condJ_false, ↓reduceIte, Nat.reduceEqDiff, Nat.reduceLT, Nat.reduceLeDiff, reduceCtorEq, Nat.reduceAdd, Nat.reduceSub, noneS, listS, implies_true, forall_const, ne_eq, d0]
    refine hx_call (f := .fn 15) rfl (by rw [hP]; exact hcallD_func (left_calls id c hc _ ho)) ?_
    rintro _ σ2 ⟨rfl, h⟩
    subst σ2
    by_cases h1 : a < (leftC c : Int)
    · have d1 : decide (a ≥ (leftC c : Int)) = false := decide_eq_false (by omega)
      obtain ⟨j, rfl⟩ : ∃ j : Nat, a = (j : Int) := ⟨a.toNat, by omega⟩
      obtain ⟨he, hj⟩ := leftC_lt (c := c) (j := j) (by omega)
      have hg := encTk_get c.L (c.n + j) hj
      have hw : IntKind.i64.wrap ((c.n : Int) + (j : Int)) = ((c.n + j : Nat) : Int) := by
        have := hc.len; have := hc.small
        rw [IntWalk.i64_in _ (by omega)]; rfl
      have hlt : ((c.n + j : Nat) : Int) < (c.L.length : Int) := by omega
      have hx := hc.in_ c.L[c.n + j] (List.getElem_mem _)
      have hgd : c.L.getD (c.n + j) ⟨0, 0, 0⟩ = c.L[c.n + j] := by simp [List.getD, hj]
      have hp : peekC c (j : Int) = (c.L[c.n + j].k, textT c.s c.L[c.n + j]) := by unfold peekC; rw [if_pos ⟨h0, h1⟩, Int.toNat_natCast, hgd]
      have hid := (hwf.obj _ _ ho).1
      have hne : ¬ id = σ.next := by omega
      rw [hp]
      refine hgo_sound 60 ?_
      simp -implicitDefEqProofs (maxSteps := 1000000) only [simpS, ↓condJ_true, ↓condJ_false, ↓reduceIte, Nat.reduceEqDiff, Nat.reduceLT, Nat.reduceLeDiff, reduceCtorEq, Nat.reduceAdd, Nat.reduceSub, noneS, listS, implies_true, forall_const, ne_eq, d1]
      refine hx_drawgo 3 ?_
      simp -implicitDefEqProofs (maxSteps := 100000000) only [drawS, listS, List.getElem?_cons_zero, List.getElem?_cons_succ, List.getElem?_nil, simpS, ↓condJ_true, ↓condJ_false, ↓reduceIte, Nat.reduceEqDiff, Nat.reduceLT, Nat.reduceLeDiff, reduceCtorEq, Nat.reduceAdd, Nat.reduceSub, noneS, listS, implies_true, forall_const, ne_eq, hnt', ho, hne, encTk_length, hw, hg, hlt, Int.toNat_natCast, Int.natCast_nonneg]
      refine hgo_sound 60 ?_
      simp -implicitDefEqProofs (maxSteps := 1000000) only [simpS, ↓condJ_true, ↓condJ_false, ↓reduceIte, Nat.reduceEqDiff, Nat.reduceLT, Nat.reduceLeDiff, reduceCtorEq, Nat.reduceAdd, Nat.reduceSub, noneS, listS, implies_true, forall_const, ne_eq, ho, hne]
      refine hx_drawgo 1 ?_
      simp -implicitDefEqProofs (maxSteps := 100000000) only [drawS, listS, List.getElem?_cons_zero, List.getElem?_cons_succ, List.getElem?_nil, simpS, ↓condJ_true, ↓condJ_false, ↓reduceIte, Nat.reduceEqDiff, Nat.reduceLT, Nat.reduceLeDiff, reduceCtorEq, Nat.reduceAdd, Nat.reduceSub, noneS, listS, implies_true, forall_const, ne_eq, hnt', ho, hne]
      refine hd_call (i := 7) (f := .fn 25) (by simp -implicitDefEqProofs (maxSteps := 100000000) only [drawS, listS, List.getElem?_cons_zero, List.getElem?_cons_succ, List.getElem?_nil, simpS, ↓condJ_true, ↓condJ_false, ↓reduceIte, Nat.reduceEqDiff, Nat.reduceLT, Nat.reduceLeDiff, reduceCtorEq, Nat.reduceAdd, Nat.reduceSub, noneS, listS, implies_true, forall_const, ne_eq, hnt', ho, hne]) (by rfl) (by rfl) rfl (by rfl) (by rw [hP]; exact hcallD_func (ttext_calls c.s c.L[c.n + j] hx.1 hx.2 _)) ?_
      rintro _ σ2 ⟨rfl, h⟩
      subst σ2
      refine hdgo_sound 1 ?_
      simp -implicitDefEqProofs (maxSteps := 3000000) only [drawS, listS, List.getElem?_cons_zero, List.getElem?_cons_succ, List.getElem?_nil, simpS, ↓condJ_true, ↓condJ_false, ↓reduceIte, Nat.reduceEqDiff, Nat.reduceLT, Nat.reduceLeDiff, reduceCtorEq, Nat.reduceAdd, Nat.reduceSub, noneS, listS, implies_true, forall_const, ne_eq, hnt', ho, hne]
      refine hgo_sound 60 ?_
      simp -implicitDefEqProofs (maxSteps := 1000000) only [simpS, ↓condJ_true, ↓condJ_false, ↓reduceIte, Nat.reduceEqDiff, Nat.reduceLT, Nat.reduceLeDiff, reduceCtorEq, Nat.reduceAdd, Nat.reduceSub, noneS, listS, implies_true, forall_const, ne_eq]
      exact fpost_pure (σ0 := σ) (.inr rfl) (by rw [hnx]; exact Nat.le_refl _) hwf (((Ext.refl _).new _).sub hwf) rfl trivial ⟨trivial, trivial, trivial⟩ ⟨rfl, rfl⟩
    · have d1 : decide (a ≥ (leftC c : Int)) = true := decide_eq_true (by omega)
      have hp : peekC c a = (0, ⟨#[]⟩) := by unfold peekC; rw [if_neg (by omega)]
      rw [hp]
      refine hgo_sound 60 ?_
      simp -implicitDefEqProofs (maxSteps := 1000000) only [simpS, ↓condJ_true, ↓condJ_false, ↓reduceIte, Nat.reduceEqDiff, Nat.reduceLT, Nat.reduceLeDiff, reduceCtorEq, Nat.reduceAdd, Nat.reduceSub, noneS, listS, implies_true, forall_const, ne_eq, d1]
      exact fpost_keep (.inr rfl) rfl trivial (fun _ => ⟨trivial, trivial, trivial⟩) fun hw => ⟨rfl, rfl⟩
  · have d0 : decide (a < 0) = true := decide_eq_true (by omega)
    have hp : peekC c a = (0, ⟨#[]⟩) := by unfold peekC; rw [if_neg (by omega)]
    rw [hp]
    refine hgo_sound 60 ?_
    simp -implicitDefEqProofs (maxSteps := 1000000) only [simpS, ↓condJ_true, ↓condJ_false, ↓reduceIte, Nat.reduceEqDiff, Nat.reduceLT, Nat.reduceLeDiff, reduceCtorEq, Nat.reduceAdd, Nat.reduceSub, noneS, listS, implies_true, forall_const, ne_eq, d0]
    exact fpost_keep (.inr rfl) rfl trivial (fun _ => ⟨trivial, trivial, trivial⟩) fun hw => ⟨rfl, rfl⟩

def atC (c : Cu) : Nat := if leftC c = 0 then c.s.size else (c.L.getD c.n ⟨0, 0, 0⟩).f

theorem at_calls (id : Nat) (c : Cu) (hc : c.ok) (σ : St) (ho : σ.obj id = some (.box (encC c))) : HCalls Tryd.prog 14 [.ptr id 0] σ (fun d σ' => d = .int .i64 (atC c : Int) ∧ σ' = σ) := by
  refine hcalls_body (fn := Tryd.f14) rfl c14 (by simp [h14]) (by simp [h14, Tryd.f14]) ?_
  intro M hP hr hnt hnx hwf hlt
  simp only [h14, argEnv]
  have hnt' : M.nt = 26 := hnt
  refine hgo_sound 60 ?_
  simp -implicitDefEqProofs (maxSteps := 1000000) only [simpS, ↓condJ_true, ↓condJ_false, ↓reduceIte, Nat.reduceEqDiff, Nat.reduceLT, Nat.reduceLeDiff, reduceCtorEq, Nat.reduceAdd, Nat.reduceSub, noneS, listS, implies_true, forall_const, ne_eq]
  refine hx_call (f := .fn 15) rfl (by rw [hP]; exact hcallD_func (left_calls id c hc _ ho)) ?_
  rintro _ σ2 ⟨rfl, h⟩
  subst σ2
  by_cases h0 : leftC c = 0
  · have e0 : ((leftC c : Int) == 0) = true := by rw [h0]; rfl
    have hp : atC c = c.s.size := by unfold atC; rw [if_pos h0]
    rw [hp]
    refine hgo_sound 90 ?_
    simp -implicitDefEqProofs (maxSteps := 1000000) only [simpS, ↓condJ_true, ↓condJ_false, ↓reduceIte, Nat.reduceEqDiff, Nat.reduceLT, Nat.reduceLeDiff, reduceCtorEq, Nat.reduceAdd, Nat.reduceSub, noneS, listS, implies_true, forall_const, ne_eq, e0, ho]
    exact fpost_keep (.inr rfl) rfl trivial (fun _ => trivial) fun hw => ⟨rfl, rfl⟩
  · have e0 : ((leftC c : Int) == 0) = false := by simp; omega
    obtain ⟨he, hj⟩ := leftC_lt (c := c) (j := 0) (by omega)
    have hg := encTk_get c.L c.n hj
    have hlt : (c.n : Int) < (c.L.length : Int) := by omega
    have hgd : c.L.getD c.n ⟨0, 0, 0⟩ = c.L[c.n] := by simp [List.getD, show c.n < c.L.length from hj]
    have hp : atC c = c.L[c.n].f := by unfold atC; rw [if_neg h0, hgd]
    rw [hp]
    refine hgo_sound 90 ?_
    simp -implicitDefEqProofs (maxSteps := 1000000) only [simpS, ↓condJ_true, ↓condJ_false, ↓reduceIte, Nat.reduceEqDiff, Nat.reduceLT, Nat.reduceLeDiff, reduceCtorEq, Nat.reduceAdd, Nat.reduceSub, noneS, listS, implies_true, forall_const, ne_eq, e0, ho]
    refine hx_drawgo 1 ?_
    simp -implicitDefEqProofs (maxSteps := 100000000) only [drawS, listS, List.getElem?_cons_zero, List.getElem?_cons_succ, List.getElem?_nil, simpS, ↓condJ_true, ↓condJ_false, ↓reduceIte, Nat.reduceEqDiff, Nat.reduceLT, Nat.reduceLeDiff, reduceCtorEq, Nat.reduceAdd, Nat.reduceSub, noneS, listS, implies_true, forall_const, ne_eq, hnt', ho, encTk_length, hg, hlt, Int.toNat_natCast, Int.natCast_nonneg]
    refine hgo_sound 60 ?_
    simp -implicitDefEqProofs (maxSteps := 1000000) only [simpS, ↓condJ_true, ↓condJ_false, ↓reduceIte, Nat.reduceEqDiff, Nat.reduceLT, Nat.reduceLeDiff, reduceCtorEq, Nat.reduceAdd, Nat.reduceSub, noneS, listS, implies_true, forall_const, ne_eq]
    exact fpost_keep (.inr rfl) rfl trivial (fun _ => trivial) fun hw => ⟨rfl, rfl⟩

def isC (c : Cu) (a : Int) (x : ByteArray) : Bool := (decide ((peekC c a).1 = 3) || decide ((peekC c a).1 = 6)) && decide ((peekC c a).2 = x)

theorem cis_calls (id : Nat) (c : Cu) (hc : c.ok) (a : Int) (x : ByteArray) (σ : St) (ho : σ.obj id = some (.box (encC c))) : HCalls Tryd.prog 17 [.ptr id 0, .int .i64 a, .str x] σ (fun d σ' => d = .bool (isC c a x) ∧ σ' = σ) := by
  refine hcalls_body (fn := Tryd.f17) rfl c17 (by simp [h17]) (by simp [h17, Tryd.f17]) ?_
  intro M hP hr hnt hnx hwf hlt
  simp only [h17, argEnv]
  have hnt' : M.nt = 26 := hnt
  refine hgo_sound 60 ?_
  simp -implicitDefEqProofs (maxSteps := 1000000) only [simpS, ↓condJ_true, ↓condJ_false, ↓reduceIte, Nat.reduceEqDiff, Nat.reduceLT, Nat.reduceLeDiff, reduceCtorEq, Nat.reduceAdd, Nat.reduceSub, noneS, listS, implies_true, forall_const, ne_eq]
  refine hx_call (f := .fn 13) rfl (by rw [hP]; exact hcallD_func (peek_calls id c hc a _ ho)) ?_
  rintro _ σ2 ⟨rfl, h⟩
  subst σ2
  unfold isC
  generalize peekC c a = q
  obtain ⟨k, t⟩ := q
  have e3 : ((k : Int) == 3) = decide (k = 3) := by rw [Bool.eq_iff_iff]; simp; omega
  have e6 : ((k : Int) == 6) = decide (k = 6) := by rw [Bool.eq_iff_iff]; simp; omega
  simp only
  cases hk3 : decide (k = 3)
  · cases hk6 : decide (k = 6)
    · refine hgo_sound 60 ?_
      simp -implicitDefEqProofs (maxSteps := 1000000) only [simpS, ↓condJ_true, ↓condJ_false, ↓reduceIte, Nat.reduceEqDiff, Nat.reduceLT, Nat.reduceLeDiff, reduceCtorEq, Nat.reduceAdd, Nat.reduceSub, noneS, listS, implies_true, forall_const, ne_eq, e3, e6, hk3, hk6]
      exact fpost_keep (.inr rfl) rfl trivial (fun _ => trivial) fun hw => ⟨rfl, rfl⟩
    · refine hgo_sound 60 ?_
      simp -implicitDefEqProofs (maxSteps := 1000000) only [simpS, ↓condJ_true, ↓condJ_false, ↓reduceIte, Nat.reduceEqDiff, Nat.reduceLT, Nat.reduceLeDiff, reduceCtorEq, Nat.reduceAdd, Nat.reduceSub, noneS, listS, implies_true, forall_const, ne_eq, e3, e6, hk3, hk6]
      exact fpost_keep (.inr rfl) rfl trivial (fun _ => trivial) fun hw => ⟨rfl, rfl⟩
  · refine hgo_sound 60 ?_
    simp -implicitDefEqProofs (maxSteps := 1000000) only [simpS, ↓condJ_true, ↓condJ_false, ↓reduceIte, Nat.reduceEqDiff, Nat.reduceLT, Nat.reduceLeDiff, reduceCtorEq, Nat.reduceAdd, Nat.reduceSub, noneS, listS, implies_true, forall_const, ne_eq, e3, e6, hk3]
    exact fpost_keep (.inr rfl) rfl trivial (fun _ => trivial) fun hw => ⟨rfl, rfl⟩

def failC (c : Cu) (e : Int) : Cu := if c.er = 0 then { c with at_ := atC c, er := if e < 1 ∨ e > 15 then 2 else e.toNat } else c

theorem fail_calls (id : Nat) (c : Cu) (hc : c.ok) (e : Int) (σ : St) (ho : σ.obj id = some (.box (encC c))) : HCalls Tryd.prog 12 [.ptr id 0, .int .i64 e] σ (fun _ σ' => σ' = σ.put id (.box (encC (failC c e)))) := by
  refine hcalls_body (fn := Tryd.f12) rfl c12 (by simp [h12]) (by simp [h12, Tryd.f12]) ?_
  intro M hP hr hnt hnx hwf hlt
  simp only [h12, argEnv]
  have hnt' : M.nt = 28 := hnt
  by_cases he : c.er = 0
  · have e1 : ((c.er : Int) != 0) = false := by rw [he]; rfl
    by_cases h1 : e < 1
    · have d1 : decide (e < 1) = true := decide_eq_true h1
      have hf : failC c e = { c with at_ := atC c, er := 2 } := by unfold failC; rw [if_pos he, if_pos (.inl h1)]
      rw [hf]
      refine hgo_sound 90 ?_
      simp -implicitDefEqProofs (maxSteps := 1000000) only [simpS, ↓condJ_true, ↓condJ_false, ↓reduceIte, Nat.reduceEqDiff, Nat.reduceLT, Nat.reduceLeDiff, reduceCtorEq, Nat.reduceAdd, Nat.reduceSub, noneS, listS, implies_true, forall_const, ne_eq, ho, e1, d1]
      refine hx_call (f := .fn 14) rfl (by rw [hP]; exact hcallD_func (at_calls id c hc _ ho)) ?_
      rintro _ σ2 ⟨rfl, h⟩
      subst σ2
      refine hgo_sound 90 ?_
      simp -implicitDefEqProofs (maxSteps := 1000000) only [simpS, ↓condJ_true, ↓condJ_false, ↓reduceIte, Nat.reduceEqDiff, Nat.reduceLT, Nat.reduceLeDiff, reduceCtorEq, Nat.reduceAdd, Nat.reduceSub, noneS, listS, implies_true, forall_const, ne_eq, ho]
      exact fpost_keep (.inl rfl) rfl trivial (fun _ => trivial) fun hw => rfl
    · have d1 : decide (e < 1) = false := decide_eq_false h1
      by_cases h2 : e > 15
      · have d2 : decide (e > 15) = true := decide_eq_true h2
        have hf : failC c e = { c with at_ := atC c, er := 2 } := by unfold failC; rw [if_pos he, if_pos (.inr h2)]
        rw [hf]
        refine hgo_sound 90 ?_
        simp -implicitDefEqProofs (maxSteps := 1000000) only [simpS, ↓condJ_true, ↓condJ_false, ↓reduceIte, Nat.reduceEqDiff, Nat.reduceLT, Nat.reduceLeDiff, reduceCtorEq, Nat.reduceAdd, Nat.reduceSub, noneS, listS, implies_true, forall_const, ne_eq, ho, e1, d1, d2]
        refine hx_call (f := .fn 14) rfl (by rw [hP]; exact hcallD_func (at_calls id c hc _ ho)) ?_
        rintro _ σ2 ⟨rfl, h⟩
        subst σ2
        refine hgo_sound 90 ?_
        simp -implicitDefEqProofs (maxSteps := 1000000) only [simpS, ↓condJ_true, ↓condJ_false, ↓reduceIte, Nat.reduceEqDiff, Nat.reduceLT, Nat.reduceLeDiff, reduceCtorEq, Nat.reduceAdd, Nat.reduceSub, noneS, listS, implies_true, forall_const, ne_eq, ho]
        exact fpost_keep (.inl rfl) rfl trivial (fun _ => trivial) fun hw => rfl
      · have d2 : decide (e > 15) = false := decide_eq_false h2
        have hf : failC c e = { c with at_ := atC c, er := e.toNat } := by unfold failC; rw [if_pos he, if_neg (by omega)]
        obtain ⟨j, rfl⟩ : ∃ j : Nat, e = (j : Int) := ⟨e.toNat, by omega⟩
        rw [hf]
        refine hgo_sound 90 ?_
        simp -implicitDefEqProofs (maxSteps := 1000000) only [simpS, ↓condJ_true, ↓condJ_false, ↓reduceIte, Nat.reduceEqDiff, Nat.reduceLT, Nat.reduceLeDiff, reduceCtorEq, Nat.reduceAdd, Nat.reduceSub, noneS, listS, implies_true, forall_const, ne_eq, ho, e1, d1, d2]
        refine hx_call (f := .fn 14) rfl (by rw [hP]; exact hcallD_func (at_calls id c hc _ ho)) ?_
        rintro _ σ2 ⟨rfl, h⟩
        subst σ2
        refine hgo_sound 90 ?_
        simp -implicitDefEqProofs (maxSteps := 1000000) only [simpS, ↓condJ_true, ↓condJ_false, ↓reduceIte, Nat.reduceEqDiff, Nat.reduceLT, Nat.reduceLeDiff, reduceCtorEq, Nat.reduceAdd, Nat.reduceSub, noneS, listS, implies_true, forall_const, ne_eq, ho]
        exact fpost_keep (.inl rfl) rfl trivial (fun _ => trivial) fun hw => rfl
  · have e1 : ((c.er : Int) != 0) = true := by simp; omega
    have hf : failC c e = c := by unfold failC; rw [if_neg he]
    rw [hf]
    refine hgo_sound 90 ?_
    simp -implicitDefEqProofs (maxSteps := 1000000) only [simpS, ↓condJ_true, ↓condJ_false, ↓reduceIte, Nat.reduceEqDiff, Nat.reduceLT, Nat.reduceLeDiff, reduceCtorEq, Nat.reduceAdd, Nat.reduceSub, noneS, listS, implies_true, forall_const, ne_eq, ho, e1]
    exact fpost_keep (.inr rfl) rfl trivial (fun _ => trivial) fun hw => (put_self ho).symm

abbrev erV (e : Nat) : D := erD (e : Int)

theorem failed_calls (id : Nat) (c : Cu) (σ : St) (ho : σ.obj id = some (.box (encC c))) : HCalls Tryd.prog 8 [.ptr id 0] σ (fun d σ' => d = .tuple [.int .i64 (if c.er = 0 then 0 else (c.at_ : Int)), erV c.er] ∧ σ' = σ) := by
  refine hcalls_body (fn := Tryd.f8) rfl c8 (by simp [h8]) (by simp [h8, Tryd.f8]) ?_
  intro M hP hr hnt hnx hwf hlt
  simp only [h8, argEnv]
  have hnt' : M.nt = 23 := hnt
  by_cases he : c.er = 0
  · have e1 : ((c.er : Int) == 0) = true := by rw [he]; rfl
    have hv : erV c.er = .nili := by unfold erV; rw [he]; rfl
    rw [hv, if_pos he]
    refine hgo_sound 90 ?_
    simp -implicitDefEqProofs (maxSteps := 1000000) only [simpS, ↓condJ_true, ↓condJ_false, ↓reduceIte, Nat.reduceEqDiff, Nat.reduceLT, Nat.reduceLeDiff, reduceCtorEq, Nat.reduceAdd, Nat.reduceSub, noneS, listS, implies_true, forall_const, ne_eq, ho, e1]
    exact fpost_keep (.inr rfl) rfl trivial (fun _ => ⟨trivial, trivial, trivial⟩) fun hw => ⟨rfl, rfl⟩
  · have e1 : ((c.er : Int) == 0) = false := by simp; omega
    have hv : erV c.er = .iface 32 (.int .i64 (c.er : Int)) := by unfold erV; rw [erD_pos (by omega)]
    rw [hv, if_neg he]
    refine hgo_sound 90 ?_
    simp -implicitDefEqProofs (maxSteps := 1000000) only [simpS, ↓condJ_true, ↓condJ_false, ↓reduceIte, Nat.reduceEqDiff, Nat.reduceLT, Nat.reduceLeDiff, reduceCtorEq, Nat.reduceAdd, Nat.reduceSub, noneS, listS, implies_true, forall_const, ne_eq, ho, e1]
    refine hx_drawgo 1 ?_
    simp -implicitDefEqProofs (maxSteps := 100000000) only [drawS, listS, List.getElem?_cons_zero, List.getElem?_cons_succ, List.getElem?_nil, simpS, ↓condJ_true, ↓condJ_false, ↓reduceIte, Nat.reduceEqDiff, Nat.reduceLT, Nat.reduceLeDiff, reduceCtorEq, Nat.reduceAdd, Nat.reduceSub, noneS, listS, implies_true, forall_const, ne_eq, hnt', ho, e1]
    refine hgo_sound 60 ?_
    simp -implicitDefEqProofs (maxSteps := 1000000) only [simpS, ↓condJ_true, ↓condJ_false, ↓reduceIte, Nat.reduceEqDiff, Nat.reduceLT, Nat.reduceLeDiff, reduceCtorEq, Nat.reduceAdd, Nat.reduceSub, noneS, listS, implies_true, forall_const, ne_eq]
    exact fpost_keep (.inr rfl) rfl trivial (fun _ => ⟨trivial, trivial, trivial⟩) fun hw => ⟨rfl, rfl⟩

def endC (c : Cu) : ByteArray := if c.er = 0 ∧ leftC c = 0 then c.s.extract c.la c.s.size else ⟨#[]⟩

theorem end_calls (id : Nat) (c : Cu) (hc : c.ok) (σ : St) (ho : σ.obj id = some (.box (encC c))) : HCalls Tryd.prog 16 [.ptr id 0] σ (fun d σ' => d = .str (endC c) ∧ σ' = σ) := by
  refine hcalls_body (fn := Tryd.f16) rfl c16 (by simp [h16]) (by simp [h16, Tryd.f16]) ?_
  intro M hP hr hnt hnx hwf hlt
  simp only [h16, argEnv]
  have hnt' : M.nt = 26 := hnt
  by_cases he : c.er = 0
  · have e1 : ((c.er : Int) != 0) = false := by rw [he]; rfl
    by_cases h1 : leftC c = 0
    · have d1 : decide ((leftC c : Int) > 0) = false := decide_eq_false (by omega)
      have hf : endC c = c.s.extract c.la c.s.size := by unfold endC; rw [if_pos ⟨he, h1⟩]
      have hla := hc.last
      have p1 : (c.la : Int) ≤ (c.s.size : Int) := by omega
      rw [hf]
      refine hgo_sound 90 ?_
      simp -implicitDefEqProofs (maxSteps := 1000000) only [simpS, ↓condJ_true, ↓condJ_false, ↓reduceIte, Nat.reduceEqDiff, Nat.reduceLT, Nat.reduceLeDiff, reduceCtorEq, Nat.reduceAdd, Nat.reduceSub, noneS, listS, implies_true, forall_const, ne_eq, ho, e1]
      refine hx_call (f := .fn 15) rfl (by rw [hP]; exact hcallD_func (left_calls id c hc _ ho)) ?_
      rintro _ σ2 ⟨rfl, h⟩
      subst σ2
      refine hgo_sound 90 ?_
      simp -implicitDefEqProofs (maxSteps := 1000000) only [simpS, ↓condJ_true, ↓condJ_false, ↓reduceIte, Nat.reduceEqDiff, Nat.reduceLT, Nat.reduceLeDiff, reduceCtorEq, Nat.reduceAdd, Nat.reduceSub, noneS, listS, implies_true, forall_const, ne_eq, ho, d1]
      refine hx_drawgo 1 ?_
      simp -implicitDefEqProofs (maxSteps := 100000000) only [drawS, listS, List.getElem?_cons_zero, List.getElem?_cons_succ, List.getElem?_nil, simpS, ↓condJ_true, ↓condJ_false, ↓reduceIte, Nat.reduceEqDiff, Nat.reduceLT, Nat.reduceLeDiff, reduceCtorEq, Nat.reduceAdd, Nat.reduceSub, noneS, listS, implies_true, forall_const, ne_eq, hnt', ho, p1, Int.toNat_natCast, Int.natCast_nonneg]
      refine hgo_sound 60 ?_
      simp -implicitDefEqProofs (maxSteps := 1000000) only [simpS, ↓condJ_true, ↓condJ_false, ↓reduceIte, Nat.reduceEqDiff, Nat.reduceLT, Nat.reduceLeDiff, reduceCtorEq, Nat.reduceAdd, Nat.reduceSub, noneS, listS, implies_true, forall_const, ne_eq]
      exact fpost_keep (.inr rfl) rfl trivial (fun _ => trivial) fun hw => ⟨rfl, rfl⟩
    · have d1 : decide ((leftC c : Int) > 0) = true := decide_eq_true (by omega)
      have hf : endC c = ⟨#[]⟩ := by unfold endC; rw [if_neg (fun h => h1 h.2)]
      rw [hf]
      refine hgo_sound 90 ?_
      simp -implicitDefEqProofs (maxSteps := 1000000) only [simpS, ↓condJ_true, ↓condJ_false, ↓reduceIte, Nat.reduceEqDiff, Nat.reduceLT, Nat.reduceLeDiff, reduceCtorEq, Nat.reduceAdd, Nat.reduceSub, noneS, listS, implies_true, forall_const, ne_eq, ho, e1]
      refine hx_call (f := .fn 15) rfl (by rw [hP]; exact hcallD_func (left_calls id c hc _ ho)) ?_
      rintro _ σ2 ⟨rfl, h⟩
      subst σ2
      refine hgo_sound 90 ?_
      simp -implicitDefEqProofs (maxSteps := 1000000) only [simpS, ↓condJ_true, ↓condJ_false, ↓reduceIte, Nat.reduceEqDiff, Nat.reduceLT, Nat.reduceLeDiff, reduceCtorEq, Nat.reduceAdd, Nat.reduceSub, noneS, listS, implies_true, forall_const, ne_eq, ho, d1]
      exact fpost_keep (.inr rfl) rfl trivial (fun _ => trivial) fun hw => ⟨rfl, rfl⟩
  · have e1 : ((c.er : Int) != 0) = true := by simp; omega
    have hf : endC c = ⟨#[]⟩ := by unfold endC; rw [if_neg (fun h => he h.1)]
    rw [hf]
    refine hgo_sound 90 ?_
    simp -implicitDefEqProofs (maxSteps := 1000000) only [simpS, ↓condJ_true, ↓condJ_false, ↓reduceIte, Nat.reduceEqDiff, Nat.reduceLT, Nat.reduceLeDiff, reduceCtorEq, Nat.reduceAdd, Nat.reduceSub, noneS, listS, implies_true, forall_const, ne_eq, ho, e1]
    exact fpost_keep (.inr rfl) rfl trivial (fun _ => trivial) fun hw => ⟨rfl, rfl⟩

end Go.Hl
