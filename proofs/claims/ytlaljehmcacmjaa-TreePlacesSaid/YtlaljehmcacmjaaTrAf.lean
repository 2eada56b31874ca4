/-
  The law TreePlaces.
-/
import Derived.Test.YtlaljehmcacmjaaTrAe
import Derived.Test.YtlaljehmcacmjaaTrTa
import Derived.Test.YtlaljehmcacmjaaTrAa
import Derived.Test.YtlaljehmcacmjaaTrAb
import Derived.Test.YtlaljehmcacmjaaTrM
import Derived.Test.YtlaljehmcacmjaaHlU
set_option linter.unusedSectionVars false
set_option linter.unusedVariables false
set_option linter.unusedSimpArgs false
set_option maxRecDepth 100000
namespace Go.Hl
open Go Go.Proofs

theorem zero5_len : zero5.length = 5 := rfl
/-- What is known of two calls' results, stored in two variables, while these come up. -/
structure PlK (σ0 : St) (a b : Nd) (x y : Nd) (z : Int) (L : Nat → Bool) (V : Nat → D) (σ' : St) : Prop where
  ext : Ext σ0 σ'
  r0 : L 0 = true → V 0 = .agg (encN a)
  r1 : L 1 = true → V 1 = .int .i64 z
  r2 : L 2 = true → V 2 = .agg (encN x)
  r3 : L 3 = true → V 3 = .agg (encN b)
  r4 : L 4 = true → V 4 = .agg (encN y)
  r5 : L 5 = true → ∃ i, V 5 = .ptr i 0 ∧ σ0.next ≤ i ∧ i < σ'.next ∧ σ'.obj i = some (.bx none (if L 7 then encN x else zero5)) ∧ (L 6 = true → V 6 ≠ .ptr i 0)
  r6 : L 6 = true → ∃ i, V 6 = .ptr i 0 ∧ σ0.next ≤ i ∧ i < σ'.next ∧ σ'.obj i = some (.bx none (if L 8 then encN y else zero5))
  r7 : L 7 = true → L 5 = true
  r8 : L 8 = true → L 6 = true

theorem PlK.start (σ0 : St) (a b x y : Nd) (z : Int) : PlK σ0 a b x y z (fun _ => false) (fun _ => .undef) σ0 :=
  ⟨Ext.refl _, (fun h => by cases h), (fun h => by cases h), (fun h => by cases h), (fun h => by cases h), (fun h => by cases h), (fun h => by cases h), (fun h => by cases h), (fun h => by cases h), (fun h => by cases h)⟩

theorem PlK.pure {σ0 : St} {a b x y : Nd} {z : Int} {L : Nat → Bool} {V : Nat → D} {σ' : St} (h : PlK σ0 a b x y z L V σ') {i : Nat} {d : D}
    (hd : (i = 0 ∧ d = .agg (encN a)) ∨ (i = 1 ∧ d = .int .i64 z) ∨ (i = 2 ∧ d = .agg (encN x)) ∨ (i = 3 ∧ d = .agg (encN b)) ∨ (i = 4 ∧ d = .agg (encN y))) : PlK σ0 a b x y z (upd L i true) (upd V i d) σ' := by
  rcases hd with ⟨rfl, rfl⟩ | ⟨rfl, rfl⟩ | ⟨rfl, rfl⟩ | ⟨rfl, rfl⟩ | ⟨rfl, rfl⟩
  all_goals exact ⟨h.ext, (by first | (simp [upd]; done) | simpa [upd] using h.r0), (by first | (simp [upd]; done) | simpa [upd] using h.r1), (by first | (simp [upd]; done) | simpa [upd] using h.r2), (by first | (simp [upd]; done) | simpa [upd] using h.r3), (by first | (simp [upd]; done) | simpa [upd] using h.r4), (by first | (simp [upd]; done) | simpa [upd] using h.r5), (by first | (simp [upd]; done) | simpa [upd] using h.r6), (by first | (simp [upd]; done) | simpa [upd] using h.r7), (by first | (simp [upd]; done) | simpa [upd] using h.r8)⟩

theorem PlK.allocX {σ0 : St} {a b x y : Nd} {z : Int} {L : Nat → Bool} {V : Nat → D} {σ' : St} (h : PlK σ0 a b x y z L V σ') (h5 : L 5 = false) : PlK σ0 a b x y z (upd L 5 true) (upd V 5 (.ptr σ'.next 0)) (σ'.new (.box zero5)) := by
  have h7 : L 7 = false := by
    cases e : L 7
    · rfl
    · rw [h.r7 e] at h5; cases h5
  refine ⟨h.ext.new _, (by simpa [upd] using h.r0), (by simpa [upd] using h.r1), (by simpa [upd] using h.r2), (by simpa [upd] using h.r3), (by simpa [upd] using h.r4), fun _ => ⟨σ'.next, by simp [upd], h.ext.next, Nat.lt_succ_self _, by simp [upd, h7, St.new], fun h6 => ?_⟩, fun h6 => ?_, fun _ => by simp [upd], (by simpa [upd] using h.r8)⟩
  · obtain ⟨i, e, _, hl, _⟩ := h.r6 (by simpa [upd] using h6)
    simp only [upd, Nat.reduceEqDiff, if_false, e]
    intro hh
    injection hh with hh
    omega
  · obtain ⟨i, e, hg, hl, ho⟩ := h.r6 (by simpa [upd] using h6)
    refine ⟨i, by simpa [upd] using e, hg, Nat.lt_succ_of_lt hl, ?_⟩
    rw [St.new_ne _ _ (by omega), ho]
    simp [upd]

theorem PlK.allocY {σ0 : St} {a b x y : Nd} {z : Int} {L : Nat → Bool} {V : Nat → D} {σ' : St} (h : PlK σ0 a b x y z L V σ') (h6 : L 6 = false) : PlK σ0 a b x y z (upd L 6 true) (upd V 6 (.ptr σ'.next 0)) (σ'.new (.box zero5)) := by
  have h8 : L 8 = false := by
    cases e : L 8
    · rfl
    · rw [h.r8 e] at h6; cases h6
  refine ⟨h.ext.new _, (by simpa [upd] using h.r0), (by simpa [upd] using h.r1), (by simpa [upd] using h.r2), (by simpa [upd] using h.r3), (by simpa [upd] using h.r4), fun h5 => ?_, fun _ => ⟨σ'.next, by simp [upd], h.ext.next, Nat.lt_succ_self _, by simp [upd, h8, St.new]⟩, (by simpa [upd] using h.r7), fun _ => by simp [upd]⟩
  obtain ⟨i, e, hg, hl, ho, _⟩ := h.r5 (by simpa [upd] using h5)
  refine ⟨i, by simpa [upd] using e, hg, Nat.lt_succ_of_lt hl, ?_, fun _ => ?_⟩
  · rw [St.new_ne _ _ (by omega), ho]
    simp [upd]
  · simp only [upd, if_true]
    intro hh
    injection hh with hh
    omega

theorem PlK.storeX {σ0 : St} {a b x y : Nd} {z : Int} {L : Nat → Bool} {V : Nat → D} {σ' : St} (h : PlK σ0 a b x y z L V σ') {i : Nat} {d : D} (h5 : L 5 = true) (h6 : L 6 = true) (hi : V 5 = .ptr i 0) : PlK σ0 a b x y z (upd L 7 true) (upd V 7 d) (σ'.put i (.bx none (encN x))) := by
  obtain ⟨i', e, hg, hl, ho, hne⟩ := h.r5 h5
  rw [hi] at e
  injection e with e
  subst e
  refine ⟨h.ext.put hg _, (by simpa [upd] using h.r0), (by simpa [upd] using h.r1), (by simpa [upd] using h.r2), (by simpa [upd] using h.r3), (by simpa [upd] using h.r4), fun h5 => ⟨i, by simpa [upd] using hi, hg, hl, by simp [upd, St.put], by simpa [upd] using hne⟩, fun _ => ?_, fun _ => by simpa [upd] using h5, (by simpa [upd] using h.r8)⟩
  obtain ⟨j, ej, hgj, hlj, hoj⟩ := h.r6 h6
  refine ⟨j, by simpa [upd] using ej, hgj, hlj, ?_⟩
  rw [St.put_ne _ _ (fun e => hne h6 (by rw [ej, e])), hoj]
  simp [upd]

theorem PlK.storeY {σ0 : St} {a b x y : Nd} {z : Int} {L : Nat → Bool} {V : Nat → D} {σ' : St} (h : PlK σ0 a b x y z L V σ') {i : Nat} {d : D} (h5 : L 5 = true) (h6 : L 6 = true) (hi : V 6 = .ptr i 0) : PlK σ0 a b x y z (upd L 8 true) (upd V 8 d) (σ'.put i (.bx none (encN y))) := by
  obtain ⟨i', e, hg, hl, ho⟩ := h.r6 h6
  rw [hi] at e
  injection e with e
  subst e
  refine ⟨h.ext.put hg _, (by simpa [upd] using h.r0), (by simpa [upd] using h.r1), (by simpa [upd] using h.r2), (by simpa [upd] using h.r3), (by simpa [upd] using h.r4), fun _ => ?_, fun _ => ⟨i, by simpa [upd] using hi, hg, hl, by simp [upd, St.put]⟩, (by simpa [upd] using h.r7), fun _ => by simpa [upd] using h6⟩
  obtain ⟨j, ej, hgj, hlj, hoj, hne⟩ := h.r5 h5
  refine ⟨j, by simpa [upd] using ej, hgj, hlj, ?_, by simpa [upd] using hne⟩
  rw [St.put_ne _ _ (fun e => hne h6 (by rw [hi, e])), hoj]
  simp [upd]

set_option maxHeartbeats 4000000 in
theorem treePlaces_calls (n o : Nd) (z : Int) (hfit : fitN n) (hfito : fitN o) (σ : St) : HCalls Try.prog 5 [.agg (encN n), .agg (encN o), .int .i64 z] σ (fun d _ => d = .bool true) := by
  refine hcalls_body (fn := Try.f5) rfl c5 (by simp [h5]) (by simp [h5, Try.f5]) ?_
  intro M hP hr hnt hnx hwf hlt
  have hnt' : M.nt = 119 := hnt
  simp only [h5, argEnv]
  refine hgo_sound 40 ?_
  simp -implicitDefEqProofs (maxSteps := 1000000) only [simpS, ↓condJ_true, ↓condJ_false, ↓reduceIte, Nat.reduceEqDiff, Nat.reduceLT, Nat.reduceLeDiff, reduceCtorEq, Nat.reduceAdd, Nat.reduceSub, Option.map_some, if_true, if_false, List.getD_cons_zero, List.getD_cons_succ, List.length_cons, List.length_nil, List.mem_cons, List.not_mem_nil, List.mem_append, List.nil_append, List.cons_append, List.append_nil, List.take_succ_cons, List.take_zero, List.drop_succ_cons, List.drop_zero, List.set_cons_zero, List.set_cons_succ, List.map_cons, List.map_nil, implies_true, forall_const, ne_eq]
  refine hx_call (f := .fn 7) rfl (by rw [hP]; exact hcallD_func (alive_calls _)) ?_
  rintro _ σ2 ⟨rfl, h⟩
  subst σ2
  refine hgo_sound 40 ?_
  simp -implicitDefEqProofs (maxSteps := 1000000) only [simpS, ↓condJ_true, ↓condJ_false, ↓reduceIte, Nat.reduceEqDiff, Nat.reduceLT, Nat.reduceLeDiff, reduceCtorEq, Nat.reduceAdd, Nat.reduceSub, Option.map_some, if_true, if_false, List.getD_cons_zero, List.getD_cons_succ, List.length_cons, List.length_nil, List.mem_cons, List.not_mem_nil, List.mem_append, List.nil_append, List.cons_append, List.append_nil, List.take_succ_cons, List.take_zero, List.drop_succ_cons, List.drop_zero, List.set_cons_zero, List.set_cons_succ, List.map_cons, List.map_nil, implies_true, forall_const, ne_eq, encN_length, encN_take]
  refine hx_call (f := .fn 8) rfl (by rw [hP]; exact hcallD_func (doc_calls _ n (Nat.le_refl _) hfit 1500 (by omega) (by omega) _)) ?_
  rintro _ σ2 ⟨⟨m, rfl, hm⟩, h⟩
  subst σ2
  refine hgo_sound 40 ?_
  simp -implicitDefEqProofs (maxSteps := 1000000) only [simpS, ↓condJ_true, ↓condJ_false, ↓reduceIte, Nat.reduceEqDiff, Nat.reduceLT, Nat.reduceLeDiff, reduceCtorEq, Nat.reduceAdd, Nat.reduceSub, Option.map_some, if_true, if_false, List.getD_cons_zero, List.getD_cons_succ, List.length_cons, List.length_nil, List.mem_cons, List.not_mem_nil, List.mem_append, List.nil_append, List.cons_append, List.append_nil, List.take_succ_cons, List.take_zero, List.drop_succ_cons, List.drop_zero, List.set_cons_zero, List.set_cons_succ, List.map_cons, List.map_nil, implies_true, forall_const, ne_eq, encN_length, encN_take]
  refine hx_call (f := .fn 8) rfl (by rw [hP]; exact hcallD_func (doc_calls _ o (Nat.le_refl _) hfito 1500 (by omega) (by omega) _)) ?_
  rintro _ σ2 ⟨⟨p, rfl, hp⟩, h⟩
  subst σ2
  have hsub : Ext σ ((((σ.new (.box (encN n))).new (.box (encN o))).new (.box (encN m))).new (.box (encN p))) := ((((Ext.refl σ).new _).new _).new _).new _
  have fin : ∀ (e : Env) (σ' : St), Ext σ σ' → look e 6 = .bool true → FPost M.gS.next [HR.tmp 6] (fun d x => d = D.bool true) .ret e σ' := fun e σ' hs h6 =>
    fpost_pure (σ0 := σ) (.inr rfl) (by rw [hnx]; exact Nat.le_refl _) hwf (hs.sub hwf) (ds := [look e 6]) (p := True) rfl trivial (by rw [h6]; trivial) h6
  by_cases hneg : docN n 1500 < 0
  · have hnd : decide (docN n 1500 < 0) = true := by simp [hneg]
    refine hgo_sound 60 ?_
    simp -implicitDefEqProofs (maxSteps := 1000000) only [simpS, ↓condJ_true, ↓condJ_false, ↓reduceIte, Nat.reduceEqDiff, Nat.reduceLT, Nat.reduceLeDiff, reduceCtorEq, Nat.reduceAdd, Nat.reduceSub, Option.map_some, if_true, if_false, List.getD_cons_zero, List.getD_cons_succ, List.length_cons, List.length_nil, List.mem_cons, List.not_mem_nil, List.mem_append, List.nil_append, List.cons_append, List.append_nil, List.take_succ_cons, List.take_zero, List.drop_succ_cons, List.drop_zero, List.set_cons_zero, List.set_cons_succ, List.map_cons, List.map_nil, implies_true, forall_const, ne_eq, encN_length, encN_take, hnd]
    exact fin _ _ hsub rfl
  by_cases hnego : docN o 1500 < 0
  · have hnd : decide (docN n 1500 < 0) = false := by simp; omega
    have hndo : decide (docN o 1500 < 0) = true := by simp [hnego]
    refine hgo_sound 60 ?_
    simp -implicitDefEqProofs (maxSteps := 1000000) only [simpS, ↓condJ_true, ↓condJ_false, ↓reduceIte, Nat.reduceEqDiff, Nat.reduceLT, Nat.reduceLeDiff, reduceCtorEq, Nat.reduceAdd, Nat.reduceSub, Option.map_some, if_true, if_false, List.getD_cons_zero, List.getD_cons_succ, List.length_cons, List.length_nil, List.mem_cons, List.not_mem_nil, List.mem_append, List.nil_append, List.cons_append, List.append_nil, List.take_succ_cons, List.take_zero, List.drop_succ_cons, List.drop_zero, List.set_cons_zero, List.set_cons_succ, List.map_cons, List.map_nil, implies_true, forall_const, ne_eq, encN_length, encN_take, hnd, hndo]
    exact fin _ _ hsub rfl
  have hnd : decide (docN n 1500 < 0) = false := by simp; omega
  have hndo : decide (docN o 1500 < 0) = false := by simp; omega
  have hmn := hm (by omega)
  have hpo := hp (by omega)
  subst m
  subst p
  obtain ⟨hc1, hc2⟩ := docN_cost n 1500 (by omega)
  obtain ⟨ho1, ho2⟩ := docN_cost o 1500 (by omega)
  have hcn : cntN n ≤ 1500 := by omega
  have hco : cntN o ≤ 1500 := by omega
  have hrn : rRightN n = rightN n := by rw [rRightN_all n (by omega), rightN_all n (by omega)]
  have hro : rRightN o = rightN o := by rw [rRightN_all o (by omega), rightN_all o (by omega)]
  refine hgo_sound 60 ?_
  simp -implicitDefEqProofs (maxSteps := 1000000) only [simpS, ↓condJ_true, ↓condJ_false, ↓reduceIte, Nat.reduceEqDiff, Nat.reduceLT, Nat.reduceLeDiff, reduceCtorEq, Nat.reduceAdd, Nat.reduceSub, Option.map_some, if_true, if_false, List.getD_cons_zero, List.getD_cons_succ, List.length_cons, List.length_nil, List.mem_cons, List.not_mem_nil, List.mem_append, List.nil_append, List.cons_append, List.append_nil, List.take_succ_cons, List.take_zero, List.drop_succ_cons, List.drop_zero, List.set_cons_zero, List.set_cons_succ, List.map_cons, List.map_nil, implies_true, forall_const, ne_eq, encN_length, encN_take, hnd, hndo]
  refine hx_drawS (PlK ((((σ.new (.box (encN n))).new (.box (encN o))).new (.box (encN n))).new (.box (encN o))) n n (placeN n z) (stripN n) z) (PlK.start _ _ _ _ _ _) ?_ ?_
  · intro L V σ' hK
    have e0 : σ'.obj σ.next = some (.bx none (encN n)) := by rw [hK.ext.obj _ (by simp only [St.next_new]; omega)]; simp -implicitDefEqProofs (maxSteps := 1000000) only [simpS, ↓condJ_true, ↓condJ_false, ↓reduceIte, Nat.reduceEqDiff, Nat.reduceLT, Nat.reduceLeDiff, reduceCtorEq, Nat.reduceAdd, Nat.reduceSub, Option.map_some, if_true, if_false, List.getD_cons_zero, List.getD_cons_succ, List.length_cons, List.length_nil, List.mem_cons, List.not_mem_nil, List.mem_append, List.nil_append, List.cons_append, List.append_nil, List.take_succ_cons, List.take_zero, List.drop_succ_cons, List.drop_zero, List.set_cons_zero, List.set_cons_succ, List.map_cons, List.map_nil, implies_true, forall_const, ne_eq]
    simp only [allD_nil, allD_cons]
    refine ⟨fun hi ha => ?_, fun hi ha => ?_, fun hi ha => ?_, fun hi ha => ?_, fun hi ha => ?_, fun hi ha => ?_, fun hi ha => ?_, fun hi ha => ?_, fun hi ha => ?_, trivial⟩
    · simp -implicitDefEqProofs (maxSteps := 3000000) only [dsetS, List.map_cons, List.map_nil, simpS, ↓condJ_true, ↓condJ_false, ↓reduceIte, Nat.reduceEqDiff, Nat.reduceLT, Nat.reduceLeDiff, reduceCtorEq, Nat.reduceAdd, Nat.reduceSub, Option.map_some, if_true, if_false, List.getD_cons_zero, List.getD_cons_succ, List.length_cons, List.length_nil, List.mem_cons, List.not_mem_nil, List.mem_append, List.nil_append, List.cons_append, List.append_nil, List.take_succ_cons, List.take_zero, List.drop_succ_cons, List.drop_zero, List.set_cons_zero, List.set_cons_succ, List.map_cons, List.map_nil, implies_true, forall_const, ne_eq, hnt', e0, encN_length, encN_take]
      exact hK.pure (.inl ⟨rfl, rfl⟩)
    · simp -implicitDefEqProofs (maxSteps := 3000000) only [dsetS, List.map_cons, List.map_nil, simpS, ↓condJ_true, ↓condJ_false, ↓reduceIte, Nat.reduceEqDiff, Nat.reduceLT, Nat.reduceLeDiff, reduceCtorEq, Nat.reduceAdd, Nat.reduceSub, Option.map_some, if_true, if_false, List.getD_cons_zero, List.getD_cons_succ, List.length_cons, List.length_nil, List.mem_cons, List.not_mem_nil, List.mem_append, List.nil_append, List.cons_append, List.append_nil, List.take_succ_cons, List.take_zero, List.drop_succ_cons, List.drop_zero, List.set_cons_zero, List.set_cons_succ, List.map_cons, List.map_nil, implies_true, forall_const, ne_eq, hnt', e0, encN_length, encN_take]
      exact hK.pure (.inr (.inl ⟨rfl, rfl⟩))
    · have h0 := hK.r0 (ha 0 (by decide))
      have h1 := hK.r1 (ha 1 (by decide))
      simp -implicitDefEqProofs (maxSteps := 3000000) only [dsetS, List.map_cons, List.map_nil, simpS, ↓condJ_true, ↓condJ_false, ↓reduceIte, Nat.reduceEqDiff, Nat.reduceLT, Nat.reduceLeDiff, reduceCtorEq, Nat.reduceAdd, Nat.reduceSub, Option.map_some, if_true, if_false, List.getD_cons_zero, List.getD_cons_succ, List.length_cons, List.length_nil, List.mem_cons, List.not_mem_nil, List.mem_append, List.nil_append, List.cons_append, List.append_nil, List.take_succ_cons, List.take_zero, List.drop_succ_cons, List.drop_zero, List.set_cons_zero, List.set_cons_succ, List.map_cons, List.map_nil, implies_true, forall_const, ne_eq, hnt', e0, encN_length, encN_take]
      simp only [h0, h1]
      refine ⟨_, _, _, rfl, by rw [hP]; exact hcallD_func (place_calls n (by omega) z _), ?_⟩
      rintro _ σ2 ⟨rfl, h⟩
      subst σ2
      exact hK.pure (.inr (.inr (.inl ⟨rfl, rfl⟩)))
    · simp -implicitDefEqProofs (maxSteps := 3000000) only [dsetS, List.map_cons, List.map_nil, simpS, ↓condJ_true, ↓condJ_false, ↓reduceIte, Nat.reduceEqDiff, Nat.reduceLT, Nat.reduceLeDiff, reduceCtorEq, Nat.reduceAdd, Nat.reduceSub, Option.map_some, if_true, if_false, List.getD_cons_zero, List.getD_cons_succ, List.length_cons, List.length_nil, List.mem_cons, List.not_mem_nil, List.mem_append, List.nil_append, List.cons_append, List.append_nil, List.take_succ_cons, List.take_zero, List.drop_succ_cons, List.drop_zero, List.set_cons_zero, List.set_cons_succ, List.map_cons, List.map_nil, implies_true, forall_const, ne_eq, hnt', e0, encN_length, encN_take]
      exact hK.pure (.inr (.inr (.inr (.inl ⟨rfl, rfl⟩))))
    · have h0 := hK.r3 (ha 3 (by decide))
      simp -implicitDefEqProofs (maxSteps := 3000000) only [dsetS, List.map_cons, List.map_nil, simpS, ↓condJ_true, ↓condJ_false, ↓reduceIte, Nat.reduceEqDiff, Nat.reduceLT, Nat.reduceLeDiff, reduceCtorEq, Nat.reduceAdd, Nat.reduceSub, Option.map_some, if_true, if_false, List.getD_cons_zero, List.getD_cons_succ, List.length_cons, List.length_nil, List.mem_cons, List.not_mem_nil, List.mem_append, List.nil_append, List.cons_append, List.append_nil, List.take_succ_cons, List.take_zero, List.drop_succ_cons, List.drop_zero, List.set_cons_zero, List.set_cons_succ, List.map_cons, List.map_nil, implies_true, forall_const, ne_eq, hnt', e0, encN_length, encN_take]
      simp only [h0]
      refine ⟨_, _, _, rfl, by rw [hP]; exact hcallD_func (strip_calls n (by omega) _), ?_⟩
      rintro _ σ2 ⟨rfl, h⟩
      subst σ2
      exact hK.pure (.inr (.inr (.inr (.inr ⟨rfl, rfl⟩))))
    · simp -implicitDefEqProofs (maxSteps := 3000000) only [dsetS, List.map_cons, List.map_nil, simpS, ↓condJ_true, ↓condJ_false, ↓reduceIte, Nat.reduceEqDiff, Nat.reduceLT, Nat.reduceLeDiff, reduceCtorEq, Nat.reduceAdd, Nat.reduceSub, Option.map_some, if_true, if_false, List.getD_cons_zero, List.getD_cons_succ, List.length_cons, List.length_nil, List.mem_cons, List.not_mem_nil, List.mem_append, List.nil_append, List.cons_append, List.append_nil, List.take_succ_cons, List.take_zero, List.drop_succ_cons, List.drop_zero, List.set_cons_zero, List.set_cons_succ, List.map_cons, List.map_nil, implies_true, forall_const, ne_eq, hnt', e0, encN_length, encN_take]
      exact hK.allocX hi
    · simp -implicitDefEqProofs (maxSteps := 3000000) only [dsetS, List.map_cons, List.map_nil, simpS, ↓condJ_true, ↓condJ_false, ↓reduceIte, Nat.reduceEqDiff, Nat.reduceLT, Nat.reduceLeDiff, reduceCtorEq, Nat.reduceAdd, Nat.reduceSub, Option.map_some, if_true, if_false, List.getD_cons_zero, List.getD_cons_succ, List.length_cons, List.length_nil, List.mem_cons, List.not_mem_nil, List.mem_append, List.nil_append, List.cons_append, List.append_nil, List.take_succ_cons, List.take_zero, List.drop_succ_cons, List.drop_zero, List.set_cons_zero, List.set_cons_succ, List.map_cons, List.map_nil, implies_true, forall_const, ne_eq, hnt', e0, encN_length, encN_take]
      exact hK.allocY hi
    · have h2 := hK.r2 (ha 2 (by decide))
      obtain ⟨i, h5, hg, hl, ho, hne⟩ := hK.r5 (ha 5 (by decide))
      rw [if_neg (by rw [hi]; decide)] at ho
      simp -implicitDefEqProofs (maxSteps := 3000000) only [dsetS, List.map_cons, List.map_nil, simpS, ↓condJ_true, ↓condJ_false, ↓reduceIte, Nat.reduceEqDiff, Nat.reduceLT, Nat.reduceLeDiff, reduceCtorEq, Nat.reduceAdd, Nat.reduceSub, Option.map_some, if_true, if_false, List.getD_cons_zero, List.getD_cons_succ, List.length_cons, List.length_nil, List.mem_cons, List.not_mem_nil, List.mem_append, List.nil_append, List.cons_append, List.append_nil, List.take_succ_cons, List.take_zero, List.drop_succ_cons, List.drop_zero, List.set_cons_zero, List.set_cons_succ, List.map_cons, List.map_nil, implies_true, forall_const, ne_eq, hnt', e0, encN_length, encN_take]
      simp only [h2, h5]
      simp -implicitDefEqProofs (maxSteps := 3000000) only [dsetS, List.map_cons, List.map_nil, simpS, ↓condJ_true, ↓condJ_false, ↓reduceIte, Nat.reduceEqDiff, Nat.reduceLT, Nat.reduceLeDiff, reduceCtorEq, Nat.reduceAdd, Nat.reduceSub, Option.map_some, if_true, if_false, List.getD_cons_zero, List.getD_cons_succ, List.length_cons, List.length_nil, List.mem_cons, List.not_mem_nil, List.mem_append, List.nil_append, List.cons_append, List.append_nil, List.take_succ_cons, List.take_zero, List.drop_succ_cons, List.drop_zero, List.set_cons_zero, List.set_cons_succ, List.map_cons, List.map_nil, implies_true, forall_const, ne_eq, hnt', encN_length, encN_take, ho, zero5_len]
      exact hK.storeX (ha 5 (by decide)) (ha 6 (by decide)) h5
    · have h4 := hK.r4 (ha 4 (by decide))
      obtain ⟨i, h6, hg, hl, ho⟩ := hK.r6 (ha 6 (by decide))
      rw [if_neg (by rw [hi]; decide)] at ho
      simp -implicitDefEqProofs (maxSteps := 3000000) only [dsetS, List.map_cons, List.map_nil, simpS, ↓condJ_true, ↓condJ_false, ↓reduceIte, Nat.reduceEqDiff, Nat.reduceLT, Nat.reduceLeDiff, reduceCtorEq, Nat.reduceAdd, Nat.reduceSub, Option.map_some, if_true, if_false, List.getD_cons_zero, List.getD_cons_succ, List.length_cons, List.length_nil, List.mem_cons, List.not_mem_nil, List.mem_append, List.nil_append, List.cons_append, List.append_nil, List.take_succ_cons, List.take_zero, List.drop_succ_cons, List.drop_zero, List.set_cons_zero, List.set_cons_succ, List.map_cons, List.map_nil, implies_true, forall_const, ne_eq, hnt', encN_length, encN_take, ho]
      simp only [h4, h6]
      simp -implicitDefEqProofs (maxSteps := 3000000) only [dsetS, List.map_cons, List.map_nil, simpS, ↓condJ_true, ↓condJ_false, ↓reduceIte, Nat.reduceEqDiff, Nat.reduceLT, Nat.reduceLeDiff, reduceCtorEq, Nat.reduceAdd, Nat.reduceSub, Option.map_some, if_true, if_false, List.getD_cons_zero, List.getD_cons_succ, List.length_cons, List.length_nil, List.mem_cons, List.not_mem_nil, List.mem_append, List.nil_append, List.cons_append, List.append_nil, List.take_succ_cons, List.take_zero, List.drop_succ_cons, List.drop_zero, List.set_cons_zero, List.set_cons_succ, List.map_cons, List.map_nil, implies_true, forall_const, ne_eq, hnt', encN_length, encN_take, ho, zero5_len]
      exact hK.storeY (ha 5 (by decide)) (ha 6 (by decide)) h6
  intro L V σ' hL hK
  have v0 := hK.r0 (hL 0 (by decide))
  have v1 := hK.r1 (hL 1 (by decide))
  have v2 := hK.r2 (hL 2 (by decide))
  have v3 := hK.r3 (hL 3 (by decide))
  have v4 := hK.r4 (hL 4 (by decide))
  obtain ⟨xi, v5, g5, l5, o5, n5⟩ := hK.r5 (hL 5 (by decide))
  obtain ⟨yi, v6, g6, l6, o6⟩ := hK.r6 (hL 6 (by decide))
  rw [if_pos (hL 7 (by decide))] at o5
  rw [if_pos (hL 8 (by decide))] at o6
  have e0 : σ'.obj σ.next = some (.bx none (encN n)) := by rw [hK.ext.obj _ (by simp only [St.next_new]; omega)]; simp -implicitDefEqProofs (maxSteps := 1000000) only [simpS, ↓condJ_true, ↓condJ_false, ↓reduceIte, Nat.reduceEqDiff, Nat.reduceLT, Nat.reduceLeDiff, reduceCtorEq, Nat.reduceAdd, Nat.reduceSub, Option.map_some, if_true, if_false, List.getD_cons_zero, List.getD_cons_succ, List.length_cons, List.length_nil, List.mem_cons, List.not_mem_nil, List.mem_append, List.nil_append, List.cons_append, List.append_nil, List.take_succ_cons, List.take_zero, List.drop_succ_cons, List.drop_zero, List.set_cons_zero, List.set_cons_succ, List.map_cons, List.map_nil, implies_true, forall_const, ne_eq]
  have e1 : σ'.obj (σ.next + 1) = some (.bx none (encN o)) := by rw [hK.ext.obj _ (by simp only [St.next_new]; omega)]; simp -implicitDefEqProofs (maxSteps := 1000000) only [simpS, ↓condJ_true, ↓condJ_false, ↓reduceIte, Nat.reduceEqDiff, Nat.reduceLT, Nat.reduceLeDiff, reduceCtorEq, Nat.reduceAdd, Nat.reduceSub, Option.map_some, if_true, if_false, List.getD_cons_zero, List.getD_cons_succ, List.length_cons, List.length_nil, List.mem_cons, List.not_mem_nil, List.mem_append, List.nil_append, List.cons_append, List.append_nil, List.take_succ_cons, List.take_zero, List.drop_succ_cons, List.drop_zero, List.set_cons_zero, List.set_cons_succ, List.map_cons, List.map_nil, implies_true, forall_const, ne_eq]
  have e2 : σ'.obj (σ.next + 2) = some (.bx none (encN n)) := by rw [hK.ext.obj _ (by simp only [St.next_new]; omega)]; simp -implicitDefEqProofs (maxSteps := 1000000) only [simpS, ↓condJ_true, ↓condJ_false, ↓reduceIte, Nat.reduceEqDiff, Nat.reduceLT, Nat.reduceLeDiff, reduceCtorEq, Nat.reduceAdd, Nat.reduceSub, Option.map_some, if_true, if_false, List.getD_cons_zero, List.getD_cons_succ, List.length_cons, List.length_nil, List.mem_cons, List.not_mem_nil, List.mem_append, List.nil_append, List.cons_append, List.append_nil, List.take_succ_cons, List.take_zero, List.drop_succ_cons, List.drop_zero, List.set_cons_zero, List.set_cons_succ, List.map_cons, List.map_nil, implies_true, forall_const, ne_eq]
  have e3 : σ'.obj (σ.next + 3) = some (.bx none (encN o)) := by rw [hK.ext.obj _ (by simp only [St.next_new]; omega)]; simp -implicitDefEqProofs (maxSteps := 1000000) only [simpS, ↓condJ_true, ↓condJ_false, ↓reduceIte, Nat.reduceEqDiff, Nat.reduceLT, Nat.reduceLeDiff, reduceCtorEq, Nat.reduceAdd, Nat.reduceSub, Option.map_some, if_true, if_false, List.getD_cons_zero, List.getD_cons_succ, List.length_cons, List.length_nil, List.mem_cons, List.not_mem_nil, List.mem_append, List.nil_append, List.cons_append, List.append_nil, List.take_succ_cons, List.take_zero, List.drop_succ_cons, List.drop_zero, List.set_cons_zero, List.set_cons_succ, List.map_cons, List.map_nil, implies_true, forall_const, ne_eq]
  have hsub' : Ext σ σ' := hsub.trans hK.ext
  have hle := hK.ext.next
  simp only [St.next_new, Nat.add_assoc, Nat.reduceAdd] at g5 g6 hle
  have q0 : ¬ σ.next + 2 = σ'.next := by omega
  have q1 : ¬ xi = σ'.next := by omega
  simp -implicitDefEqProofs (maxSteps := 3000000) only [dsetS, List.map_cons, List.map_nil, simpS, ↓condJ_true, ↓condJ_false, ↓reduceIte, Nat.reduceEqDiff, Nat.reduceLT, Nat.reduceLeDiff, reduceCtorEq, Nat.reduceAdd, Nat.reduceSub, Option.map_some, if_true, if_false, List.getD_cons_zero, List.getD_cons_succ, List.length_cons, List.length_nil, List.mem_cons, List.not_mem_nil, List.mem_append, List.nil_append, List.cons_append, List.append_nil, List.take_succ_cons, List.take_zero, List.drop_succ_cons, List.drop_zero, List.set_cons_zero, List.set_cons_succ, List.map_cons, List.map_nil, implies_true, forall_const, ne_eq, hnt', encN_length, encN_take, v0, v1, v2, v3, v4, v5, v6]
  clear hK hL v0 v1 v2 v3 v4 v5 v6
  refine hgo_sound 60 ?_
  simp -implicitDefEqProofs (maxSteps := 1000000) only [simpS, ↓condJ_true, ↓condJ_false, ↓reduceIte, Nat.reduceEqDiff, Nat.reduceLT, Nat.reduceLeDiff, reduceCtorEq, Nat.reduceAdd, Nat.reduceSub, Option.map_some, if_true, if_false, List.getD_cons_zero, List.getD_cons_succ, List.length_cons, List.length_nil, List.mem_cons, List.not_mem_nil, List.mem_append, List.nil_append, List.cons_append, List.append_nil, List.take_succ_cons, List.take_zero, List.drop_succ_cons, List.drop_zero, List.set_cons_zero, List.set_cons_succ, List.map_cons, List.map_nil, implies_true, forall_const, ne_eq, encN_length, encN_take, e0, e1, e2, e3, o5, o6]
  refine hx_call (f := .fn 10) rfl (by rw [hP]; exact hcallD_func (rright_calls n (by omega) _)) ?_
  rintro _ σ2 ⟨rfl, h⟩
  subst σ2
  rw [hrn]
  refine hgo_sound 60 ?_
  simp -implicitDefEqProofs (maxSteps := 1000000) only [simpS, ↓condJ_true, ↓condJ_false, ↓reduceIte, Nat.reduceEqDiff, Nat.reduceLT, Nat.reduceLeDiff, reduceCtorEq, Nat.reduceAdd, Nat.reduceSub, Option.map_some, if_true, if_false, List.getD_cons_zero, List.getD_cons_succ, List.length_cons, List.length_nil, List.mem_cons, List.not_mem_nil, List.mem_append, List.nil_append, List.cons_append, List.append_nil, List.take_succ_cons, List.take_zero, List.drop_succ_cons, List.drop_zero, List.set_cons_zero, List.set_cons_succ, List.map_cons, List.map_nil, implies_true, forall_const, ne_eq, encN_length, encN_take, e0, e1, e2, e3, o5, o6]
  refine hx_call (f := .fn 26) rfl (by rw [hP]; exact hcallD_func (same_calls n o (by omega) (by omega) _)) ?_
  rintro _ σ2 ⟨rfl, h⟩
  subst σ2
  have hsum := sum_of_docN n 1500 (by omega)
  have hisn : (decide (0 ≤ docN n 5000) && eqN n n) = true := by
    rw [docN_of_sum n 5000 (by omega), eqN_refl]
    simp
    omega
  cases hright : rightN n
  · have hpl : placeN n z = nilNd := if_neg (by rw [hright]; simp)
    have hst : stripN n = nilNd := by unfold stripN; rw [hright]; rfl
    rw [hpl] at o5
    rw [hst] at o6
    have k0 : (encN nilNd).getD 0 .undef = .int .i64 0 := rfl
    have k4 : (encN nilNd).getD 4 .undef = .slice .no 5 [] := rfl
    refine hgo_sound 60 ?_
    simp -implicitDefEqProofs (maxSteps := 1000000) only [simpS, ↓condJ_true, ↓condJ_false, ↓reduceIte, Nat.reduceEqDiff, Nat.reduceLT, Nat.reduceLeDiff, reduceCtorEq, Nat.reduceAdd, Nat.reduceSub, Option.map_some, if_true, if_false, List.getD_cons_zero, List.getD_cons_succ, List.length_cons, List.length_nil, List.mem_cons, List.not_mem_nil, List.mem_append, List.nil_append, List.cons_append, List.append_nil, List.take_succ_cons, List.take_zero, List.drop_succ_cons, List.drop_zero, List.set_cons_zero, List.set_cons_succ, List.map_cons, List.map_nil, implies_true, forall_const, ne_eq, encN_length, encN_take, e0, e1, e2, e3, o5, o6, Bool.false_and, Bool.true_and, beq_self_eq_true, Bool.not_true, Bool.not_false]
    refine hx_op_not (by rfl) (by rfl) ?_
    refine hgo_sound 60 ?_
    simp -implicitDefEqProofs (maxSteps := 1000000) only [simpS, ↓condJ_true, ↓condJ_false, ↓reduceIte, Nat.reduceEqDiff, Nat.reduceLT, Nat.reduceLeDiff, reduceCtorEq, Nat.reduceAdd, Nat.reduceSub, Option.map_some, if_true, if_false, List.getD_cons_zero, List.getD_cons_succ, List.length_cons, List.length_nil, List.mem_cons, List.not_mem_nil, List.mem_append, List.nil_append, List.cons_append, List.append_nil, List.take_succ_cons, List.take_zero, List.drop_succ_cons, List.drop_zero, List.set_cons_zero, List.set_cons_succ, List.map_cons, List.map_nil, implies_true, forall_const, ne_eq, encN_length, encN_take, e0, e1, e2, e3, o5, o6, Bool.false_and, Bool.true_and, beq_self_eq_true, Bool.not_true, Bool.not_false]
    refine hx_op_not (by rfl) (by rfl) ?_
    refine hgo_sound 60 ?_
    simp -implicitDefEqProofs (maxSteps := 1000000) only [simpS, ↓condJ_true, ↓condJ_false, ↓reduceIte, Nat.reduceEqDiff, Nat.reduceLT, Nat.reduceLeDiff, reduceCtorEq, Nat.reduceAdd, Nat.reduceSub, Option.map_some, if_true, if_false, List.getD_cons_zero, List.getD_cons_succ, List.length_cons, List.length_nil, List.mem_cons, List.not_mem_nil, List.mem_append, List.nil_append, List.cons_append, List.append_nil, List.take_succ_cons, List.take_zero, List.drop_succ_cons, List.drop_zero, List.set_cons_zero, List.set_cons_succ, List.map_cons, List.map_nil, implies_true, forall_const, ne_eq, encN_length, encN_take, e0, e1, e2, e3, o5, o6, Bool.false_and, Bool.true_and, beq_self_eq_true, Bool.not_true, Bool.not_false]
    refine hx_call (f := .fn 26) rfl (by rw [hP]; exact hcallD_func (same_calls n n (by omega) (by omega) _)) ?_
    rintro _ σ2 ⟨rfl, h⟩
    subst σ2
    rw [hright]
    refine hgo_sound 60 ?_
    simp -implicitDefEqProofs (maxSteps := 1000000) only [simpS, ↓condJ_true, ↓condJ_false, ↓reduceIte, Nat.reduceEqDiff, Nat.reduceLT, Nat.reduceLeDiff, reduceCtorEq, Nat.reduceAdd, Nat.reduceSub, Option.map_some, if_true, if_false, List.getD_cons_zero, List.getD_cons_succ, List.length_cons, List.length_nil, List.mem_cons, List.not_mem_nil, List.mem_append, List.nil_append, List.cons_append, List.append_nil, List.take_succ_cons, List.take_zero, List.drop_succ_cons, List.drop_zero, List.set_cons_zero, List.set_cons_succ, List.map_cons, List.map_nil, implies_true, forall_const, ne_eq, encN_length, encN_take, e0, e1, e2, e3, o5, o6, Bool.false_and, Bool.true_and, beq_self_eq_true, Bool.not_true, Bool.not_false]
    refine hx_call (f := .fn 21) rfl (by rw [hP]; exact hcallD_func (is_calls n n hfit (by omega) _)) ?_
    rintro _ σ2 ⟨rfl, h⟩
    subst σ2
    rw [hisn]
    refine hgo_sound 60 ?_
    simp -implicitDefEqProofs (maxSteps := 1000000) only [simpS, ↓condJ_true, ↓condJ_false, ↓reduceIte, Nat.reduceEqDiff, Nat.reduceLT, Nat.reduceLeDiff, reduceCtorEq, Nat.reduceAdd, Nat.reduceSub, Option.map_some, if_true, if_false, List.getD_cons_zero, List.getD_cons_succ, List.length_cons, List.length_nil, List.mem_cons, List.not_mem_nil, List.mem_append, List.nil_append, List.cons_append, List.append_nil, List.take_succ_cons, List.take_zero, List.drop_succ_cons, List.drop_zero, List.set_cons_zero, List.set_cons_succ, List.map_cons, List.map_nil, implies_true, forall_const, ne_eq, encN_length, encN_take, e0, e1, e2, e3, o5, o6, k0, k4, Bool.false_and, Bool.true_and, beq_self_eq_true, Bool.not_true, Bool.not_false, List.length_nil, Int.ofNat_eq_natCast, Int.natCast_zero]
    exact fin _ _ hsub' rfl
  have hst : stripN n = stN n := by unfold stripN; rw [if_pos hright]
  rw [hst] at o6
  have haf : allF (preN 0 n) = true := by rw [← rightN_all n (by omega)]; exact hright
  have hcs : cntN (stN n) ≤ 1099511627776 := by rw [(st_all 0 n haf).2]; omega
  have hiss : (decide (0 ≤ docN (stN n) 5000) && eqN (stN n) (rstN n)) = true := by
    have := st_sum n
    rw [docN_of_sum _ 5000 (by omega), rst_st 0 n haf, eqN_refl]
    simp
    omega
  refine hgo_sound 60 ?_
  simp -implicitDefEqProofs (maxSteps := 1000000) only [simpS, ↓condJ_true, ↓condJ_false, ↓reduceIte, Nat.reduceEqDiff, Nat.reduceLT, Nat.reduceLeDiff, reduceCtorEq, Nat.reduceAdd, Nat.reduceSub, Option.map_some, if_true, if_false, List.getD_cons_zero, List.getD_cons_succ, List.length_cons, List.length_nil, List.mem_cons, List.not_mem_nil, List.mem_append, List.nil_append, List.cons_append, List.append_nil, List.take_succ_cons, List.take_zero, List.drop_succ_cons, List.drop_zero, List.set_cons_zero, List.set_cons_succ, List.map_cons, List.map_nil, implies_true, forall_const, ne_eq, encN_length, encN_take, e0, e1, e2, e3, o5, o6, Bool.false_and, Bool.true_and, beq_self_eq_true, Bool.not_true, Bool.not_false]
  refine hx_call (f := .fn 10) rfl (by rw [hP]; exact hcallD_func (rright_calls o (by omega) _)) ?_
  rintro _ σ2 ⟨rfl, h⟩
  subst σ2
  rw [hro]
  cases hright2 : rightN o
  all_goals first
    | (refine hgo_sound 60 ?_
       simp -implicitDefEqProofs (maxSteps := 1000000) only [simpS, ↓condJ_true, ↓condJ_false, ↓reduceIte, Nat.reduceEqDiff, Nat.reduceLT, Nat.reduceLeDiff, reduceCtorEq, Nat.reduceAdd, Nat.reduceSub, Option.map_some, if_true, if_false, List.getD_cons_zero, List.getD_cons_succ, List.length_cons, List.length_nil, List.mem_cons, List.not_mem_nil, List.mem_append, List.nil_append, List.cons_append, List.append_nil, List.take_succ_cons, List.take_zero, List.drop_succ_cons, List.drop_zero, List.set_cons_zero, List.set_cons_succ, List.map_cons, List.map_nil, implies_true, forall_const, ne_eq, encN_length, encN_take, e0, e1, e2, e3, o5, o6, Bool.false_and, Bool.true_and, beq_self_eq_true, Bool.not_true, Bool.not_false]
       refine hx_op_not (by rfl) (by rfl) ?_
       refine hgo_sound 60 ?_
       simp -implicitDefEqProofs (maxSteps := 1000000) only [simpS, ↓condJ_true, ↓condJ_false, ↓reduceIte, Nat.reduceEqDiff, Nat.reduceLT, Nat.reduceLeDiff, reduceCtorEq, Nat.reduceAdd, Nat.reduceSub, Option.map_some, if_true, if_false, List.getD_cons_zero, List.getD_cons_succ, List.length_cons, List.length_nil, List.mem_cons, List.not_mem_nil, List.mem_append, List.nil_append, List.cons_append, List.append_nil, List.take_succ_cons, List.take_zero, List.drop_succ_cons, List.drop_zero, List.set_cons_zero, List.set_cons_succ, List.map_cons, List.map_nil, implies_true, forall_const, ne_eq, encN_length, encN_take, e0, e1, e2, e3, o5, o6, Bool.false_and, Bool.true_and, beq_self_eq_true, Bool.not_true, Bool.not_false]
       refine hx_call (f := .fn 26) rfl (by rw [hP]; exact hcallD_func (same_calls n n (by omega) (by omega) _)) ?_
       rintro _ σ2 ⟨rfl, h⟩
       subst σ2)
    | (refine hgo_sound 60 ?_
       simp -implicitDefEqProofs (maxSteps := 1000000) only [simpS, ↓condJ_true, ↓condJ_false, ↓reduceIte, Nat.reduceEqDiff, Nat.reduceLT, Nat.reduceLeDiff, reduceCtorEq, Nat.reduceAdd, Nat.reduceSub, Option.map_some, if_true, if_false, List.getD_cons_zero, List.getD_cons_succ, List.length_cons, List.length_nil, List.mem_cons, List.not_mem_nil, List.mem_append, List.nil_append, List.cons_append, List.append_nil, List.take_succ_cons, List.take_zero, List.drop_succ_cons, List.drop_zero, List.set_cons_zero, List.set_cons_succ, List.map_cons, List.map_nil, implies_true, forall_const, ne_eq, encN_length, encN_take, e0, e1, e2, e3, o5, o6, Bool.false_and, Bool.true_and, beq_self_eq_true, Bool.not_true, Bool.not_false]
       refine hx_call (f := .fn 27) rfl (by rw [hP]; exact hcallD_func (rsame_calls _ n (Nat.le_refl _) (by omega) o _)) ?_
       rintro _ σ2 ⟨rfl, h⟩
       subst σ2
       refine hgo_sound 60 ?_
       simp -implicitDefEqProofs (maxSteps := 1000000) only [simpS, ↓condJ_true, ↓condJ_false, ↓reduceIte, Nat.reduceEqDiff, Nat.reduceLT, Nat.reduceLeDiff, reduceCtorEq, Nat.reduceAdd, Nat.reduceSub, Option.map_some, if_true, if_false, List.getD_cons_zero, List.getD_cons_succ, List.length_cons, List.length_nil, List.mem_cons, List.not_mem_nil, List.mem_append, List.nil_append, List.cons_append, List.append_nil, List.take_succ_cons, List.take_zero, List.drop_succ_cons, List.drop_zero, List.set_cons_zero, List.set_cons_succ, List.map_cons, List.map_nil, implies_true, forall_const, ne_eq, encN_length, encN_take, e0, e1, e2, e3, o5, o6, Bool.false_and, Bool.true_and, beq_self_eq_true, Bool.not_true, Bool.not_false]
       refine hx_call (f := .fn 26) rfl (by rw [hP]; exact hcallD_func (same_calls n n (by omega) (by omega) _)) ?_
       rintro _ σ2 ⟨rfl, h⟩
       subst σ2)
  all_goals
    rw [hright, eqN_refl]
    refine hgo_sound 60 ?_
    simp -implicitDefEqProofs (maxSteps := 1000000) only [simpS, ↓condJ_true, ↓condJ_false, ↓reduceIte, Nat.reduceEqDiff, Nat.reduceLT, Nat.reduceLeDiff, reduceCtorEq, Nat.reduceAdd, Nat.reduceSub, Option.map_some, if_true, if_false, List.getD_cons_zero, List.getD_cons_succ, List.length_cons, List.length_nil, List.mem_cons, List.not_mem_nil, List.mem_append, List.nil_append, List.cons_append, List.append_nil, List.take_succ_cons, List.take_zero, List.drop_succ_cons, List.drop_zero, List.set_cons_zero, List.set_cons_succ, List.map_cons, List.map_nil, implies_true, forall_const, ne_eq, encN_length, encN_take, e0, e1, e2, e3, o5, o6, Bool.false_and, Bool.true_and, beq_self_eq_true, Bool.not_true, Bool.not_false]
    refine hx_call (f := .fn 21) rfl (by rw [hP]; exact hcallD_func (is_calls n n hfit (by omega) _)) ?_
    rintro _ σ2 ⟨rfl, h⟩
    subst σ2
    rw [hisn]
    refine hgo_sound 60 ?_
    simp -implicitDefEqProofs (maxSteps := 1000000) only [simpS, ↓condJ_true, ↓condJ_false, ↓reduceIte, Nat.reduceEqDiff, Nat.reduceLT, Nat.reduceLeDiff, reduceCtorEq, Nat.reduceAdd, Nat.reduceSub, Option.map_some, if_true, if_false, List.getD_cons_zero, List.getD_cons_succ, List.length_cons, List.length_nil, List.mem_cons, List.not_mem_nil, List.mem_append, List.nil_append, List.cons_append, List.append_nil, List.take_succ_cons, List.take_zero, List.drop_succ_cons, List.drop_zero, List.set_cons_zero, List.set_cons_succ, List.map_cons, List.map_nil, implies_true, forall_const, ne_eq, encN_length, encN_take, e0, e1, e2, e3, o5, o6, Bool.false_and, Bool.true_and, beq_self_eq_true, Bool.not_true, Bool.not_false]
    refine hx_drawgo 1 ?_
    simp -implicitDefEqProofs (maxSteps := 3000000) only [drawS, List.map_cons, List.map_nil, List.getElem?_cons_zero, List.getElem?_cons_succ, List.getElem?_nil, simpS, ↓condJ_true, ↓condJ_false, ↓reduceIte, Nat.reduceEqDiff, Nat.reduceLT, Nat.reduceLeDiff, reduceCtorEq, Nat.reduceAdd, Nat.reduceSub, Option.map_some, if_true, if_false, List.getD_cons_zero, List.getD_cons_succ, List.length_cons, List.length_nil, List.mem_cons, List.not_mem_nil, List.mem_append, List.nil_append, List.cons_append, List.append_nil, List.take_succ_cons, List.take_zero, List.drop_succ_cons, List.drop_zero, List.set_cons_zero, List.set_cons_succ, List.map_cons, List.map_nil, implies_true, forall_const, ne_eq, hnt', encN_length, encN_take, beq_self_eq_true, e0, e1, e2, e3, o5, o6]
    refine hd_call (i := 2) (f := .fn 28) (by simp -implicitDefEqProofs (maxSteps := 3000000) only [drawS, List.map_cons, List.map_nil, List.getElem?_cons_zero, List.getElem?_cons_succ, List.getElem?_nil, simpS, ↓condJ_true, ↓condJ_false, ↓reduceIte, Nat.reduceEqDiff, Nat.reduceLT, Nat.reduceLeDiff, reduceCtorEq, Nat.reduceAdd, Nat.reduceSub, Option.map_some, if_true, if_false, List.getD_cons_zero, List.getD_cons_succ, List.length_cons, List.length_nil, List.mem_cons, List.not_mem_nil, List.mem_append, List.nil_append, List.cons_append, List.append_nil, List.take_succ_cons, List.take_zero, List.drop_succ_cons, List.drop_zero, List.set_cons_zero, List.set_cons_succ, List.map_cons, List.map_nil, implies_true, forall_const, ne_eq, hnt', encN_length, encN_take, beq_self_eq_true, e0, e1, e2, e3, o5, o6]) (by rfl) (by rfl) rfl (by rfl) (by rw [hP]; exact hcallD_func (rstrip_calls _ n (Nat.le_refl _) (by omega) _)) ?_
    rintro _ σ2 ⟨rfl, h⟩
    subst σ2
    refine hdgo_sound 1 ?_
    simp -implicitDefEqProofs (maxSteps := 3000000) only [drawS, List.map_cons, List.map_nil, List.getElem?_cons_zero, List.getElem?_cons_succ, List.getElem?_nil, simpS, ↓condJ_true, ↓condJ_false, ↓reduceIte, Nat.reduceEqDiff, Nat.reduceLT, Nat.reduceLeDiff, reduceCtorEq, Nat.reduceAdd, Nat.reduceSub, Option.map_some, if_true, if_false, List.getD_cons_zero, List.getD_cons_succ, List.length_cons, List.length_nil, List.mem_cons, List.not_mem_nil, List.mem_append, List.nil_append, List.cons_append, List.append_nil, List.take_succ_cons, List.take_zero, List.drop_succ_cons, List.drop_zero, List.set_cons_zero, List.set_cons_succ, List.map_cons, List.map_nil, implies_true, forall_const, ne_eq, hnt', encN_length, encN_take, beq_self_eq_true, e0, e1, e2, e3, o5, o6]
    refine hd_call (i := 3) (f := .fn 21) (by simp -implicitDefEqProofs (maxSteps := 3000000) only [drawS, List.map_cons, List.map_nil, List.getElem?_cons_zero, List.getElem?_cons_succ, List.getElem?_nil, simpS, ↓condJ_true, ↓condJ_false, ↓reduceIte, Nat.reduceEqDiff, Nat.reduceLT, Nat.reduceLeDiff, reduceCtorEq, Nat.reduceAdd, Nat.reduceSub, Option.map_some, if_true, if_false, List.getD_cons_zero, List.getD_cons_succ, List.length_cons, List.length_nil, List.mem_cons, List.not_mem_nil, List.mem_append, List.nil_append, List.cons_append, List.append_nil, List.take_succ_cons, List.take_zero, List.drop_succ_cons, List.drop_zero, List.set_cons_zero, List.set_cons_succ, List.map_cons, List.map_nil, implies_true, forall_const, ne_eq, hnt', encN_length, encN_take, beq_self_eq_true, e0, e1, e2, e3, o5, o6]) (by rfl) (by rfl) rfl (by rfl) (by rw [hP]; exact hcallD_func (is_calls (stN n) (rstN n) (st_fit n hfit) hcs _)) ?_
    rintro _ σ2 ⟨rfl, h⟩
    subst σ2
    rw [hiss]
    refine hdgo_sound 1 ?_
    simp -implicitDefEqProofs (maxSteps := 3000000) only [drawS, List.map_cons, List.map_nil, List.getElem?_cons_zero, List.getElem?_cons_succ, List.getElem?_nil, simpS, ↓condJ_true, ↓condJ_false, ↓reduceIte, Nat.reduceEqDiff, Nat.reduceLT, Nat.reduceLeDiff, reduceCtorEq, Nat.reduceAdd, Nat.reduceSub, Option.map_some, if_true, if_false, List.getD_cons_zero, List.getD_cons_succ, List.length_cons, List.length_nil, List.mem_cons, List.not_mem_nil, List.mem_append, List.nil_append, List.cons_append, List.append_nil, List.take_succ_cons, List.take_zero, List.drop_succ_cons, List.drop_zero, List.set_cons_zero, List.set_cons_succ, List.map_cons, List.map_nil, implies_true, forall_const, ne_eq, hnt', encN_length, encN_take, beq_self_eq_true, e0, e1, e2, e3, o5, o6]
    by_cases h0 : z < 0
    · have d0 : decide (z < 0) = true := by simp [h0]
      have hpl : placeN n z = nilNd := if_neg (fun h => by omega)
      have k0 : (encN nilNd).getD 0 .undef = .int .i64 0 := rfl
      have k4 : (encN nilNd).getD 4 .undef = .slice .no 5 [] := rfl
      rw [hpl] at o5
      refine hgo_sound 60 ?_
      simp -implicitDefEqProofs (maxSteps := 1000000) only [simpS, ↓condJ_true, ↓condJ_false, ↓reduceIte, Nat.reduceEqDiff, Nat.reduceLT, Nat.reduceLeDiff, reduceCtorEq, Nat.reduceAdd, Nat.reduceSub, Option.map_some, if_true, if_false, List.getD_cons_zero, List.getD_cons_succ, List.length_cons, List.length_nil, List.mem_cons, List.not_mem_nil, List.mem_append, List.nil_append, List.cons_append, List.append_nil, List.take_succ_cons, List.take_zero, List.drop_succ_cons, List.drop_zero, List.set_cons_zero, List.set_cons_succ, List.map_cons, List.map_nil, implies_true, forall_const, ne_eq, encN_length, encN_take, e0, e1, e2, e3, o5, o6, Bool.false_and, Bool.true_and, beq_self_eq_true, Bool.not_true, Bool.not_false, d0, k0, k4, List.length_nil, Int.ofNat_eq_natCast, Int.natCast_zero]
      exact fin _ _ hsub' rfl
    have d0 : decide (z < 0) = false := by simp [h0]
    by_cases h1 : z > 2147483648
    · have d1 : decide (z > 2147483648) = true := by simp [h1]
      have hpl : placeN n z = nilNd := if_neg (fun h => by omega)
      have k0 : (encN nilNd).getD 0 .undef = .int .i64 0 := rfl
      have k4 : (encN nilNd).getD 4 .undef = .slice .no 5 [] := rfl
      rw [hpl] at o5
      refine hgo_sound 60 ?_
      simp -implicitDefEqProofs (maxSteps := 1000000) only [simpS, ↓condJ_true, ↓condJ_false, ↓reduceIte, Nat.reduceEqDiff, Nat.reduceLT, Nat.reduceLeDiff, reduceCtorEq, Nat.reduceAdd, Nat.reduceSub, Option.map_some, if_true, if_false, List.getD_cons_zero, List.getD_cons_succ, List.length_cons, List.length_nil, List.mem_cons, List.not_mem_nil, List.mem_append, List.nil_append, List.cons_append, List.append_nil, List.take_succ_cons, List.take_zero, List.drop_succ_cons, List.drop_zero, List.set_cons_zero, List.set_cons_succ, List.map_cons, List.map_nil, implies_true, forall_const, ne_eq, encN_length, encN_take, e0, e1, e2, e3, o5, o6, Bool.false_and, Bool.true_and, beq_self_eq_true, Bool.not_true, Bool.not_false, d0, d1, k0, k4, List.length_nil, Int.ofNat_eq_natCast, Int.natCast_zero]
      exact fin _ _ hsub' rfl
    have d1 : decide (z > 2147483648) = false := by simp; omega
    have hpl : placeN n z = (plN n z).2 := if_pos ⟨hright, by omega, by omega⟩
    rw [hpl] at o5
    refine hgo_sound 60 ?_
    simp -implicitDefEqProofs (maxSteps := 1000000) only [simpS, ↓condJ_true, ↓condJ_false, ↓reduceIte, Nat.reduceEqDiff, Nat.reduceLT, Nat.reduceLeDiff, reduceCtorEq, Nat.reduceAdd, Nat.reduceSub, Option.map_some, if_true, if_false, List.getD_cons_zero, List.getD_cons_succ, List.length_cons, List.length_nil, List.mem_cons, List.not_mem_nil, List.mem_append, List.nil_append, List.cons_append, List.append_nil, List.take_succ_cons, List.take_zero, List.drop_succ_cons, List.drop_zero, List.set_cons_zero, List.set_cons_succ, List.map_cons, List.map_nil, implies_true, forall_const, ne_eq, encN_length, encN_take, e0, e1, e2, e3, o5, o6, Bool.false_and, Bool.true_and, beq_self_eq_true, Bool.not_true, Bool.not_false, d0, d1]
    refine hx_call (f := .fn 29) rfl (by rw [hP]; exact hcallD_func (rplace_calls _ n (Nat.le_refl _) (by omega) z _)) ?_
    rintro _ σ2 ⟨rfl, h⟩
    subst σ2
    rw [rpl_pl 0 n z haf]
    refine hgo_sound 60 ?_
    simp -implicitDefEqProofs (maxSteps := 1000000) only [simpS, ↓condJ_true, ↓condJ_false, ↓reduceIte, Nat.reduceEqDiff, Nat.reduceLT, Nat.reduceLeDiff, reduceCtorEq, Nat.reduceAdd, Nat.reduceSub, Option.map_some, if_true, if_false, List.getD_cons_zero, List.getD_cons_succ, List.length_cons, List.length_nil, List.mem_cons, List.not_mem_nil, List.mem_append, List.nil_append, List.cons_append, List.append_nil, List.take_succ_cons, List.take_zero, List.drop_succ_cons, List.drop_zero, List.set_cons_zero, List.set_cons_succ, List.map_cons, List.map_nil, implies_true, forall_const, ne_eq, encN_length, encN_take, e0, e1, e2, e3, o5, o6, Bool.false_and, Bool.true_and, beq_self_eq_true, Bool.not_true, Bool.not_false, q0, q1]
    refine hx_call (f := .fn 21) rfl (by rw [hP]; exact hcallD_func (is_calls (plN n z).2 (plN n z).2 (pl_fit n z hfit) (by rw [pl_cnt]; omega) _)) ?_
    rintro _ σ2 ⟨rfl, h⟩
    subst σ2
    rw [docN_of_sum _ 5000 (by rw [pl_sum]; omega), pl_sum, eqN_refl]
    have d5 : decide (0 ≤ 5000 - sumN n) = true := by simp; omega
    rw [d5]
    refine hgo_sound 60 ?_
    simp -implicitDefEqProofs (maxSteps := 1000000) only [simpS, ↓condJ_true, ↓condJ_false, ↓reduceIte, Nat.reduceEqDiff, Nat.reduceLT, Nat.reduceLeDiff, reduceCtorEq, Nat.reduceAdd, Nat.reduceSub, Option.map_some, if_true, if_false, List.getD_cons_zero, List.getD_cons_succ, List.length_cons, List.length_nil, List.mem_cons, List.not_mem_nil, List.mem_append, List.nil_append, List.cons_append, List.append_nil, List.take_succ_cons, List.take_zero, List.drop_succ_cons, List.drop_zero, List.set_cons_zero, List.set_cons_succ, List.map_cons, List.map_nil, implies_true, forall_const, ne_eq, Bool.and_self]
    exact fin _ _ (hsub'.new _) rfl

end Go.Hl
