/-
  Layer 8: the document's cursor takes tokens.
-/
import Derived.Test.YtijcddlahidhhaaGreatDoorCuB
import Derived.Test.YtijcddlahidhhaaGreatDoorHlP
import Derived.SizedLaws
set_option linter.unusedSectionVars false
set_option linter.unusedVariables false
set_option linter.unusedSimpArgs false
set_option maxRecDepth 100000
namespace Go.Hl
open Go Go.Proofs Go.RowKit

theorem wk_node {k : Int} {g t : ByteArray} {a : Int} : Wk (.agg [.int .i64 k, .str g, .str t, .int .i64 a, .slice .nil 0 []]) (.agg (encN (.mk k g t a []))) :=
  .agg (.cons (.refl _) (.cons (.refl _) (.cons (.refl _) (.cons (.refl _) (.cons .nil .nil)))))
theorem node_lt {k : Int} {g t : ByteArray} {a : Int} (n : Nat) : ltL n [.int .i64 k, .str g, .str t, .int .i64 a, .slice .nil 0 []] := ⟨trivial, trivial, trivial, trivial, ⟨trivial, trivial⟩, trivial⟩

set_option maxHeartbeats 4000000 in
theorem rtake_calls (c : Cu) (hc : c.ok) (hlk : c.lok) (w : Bool) (σ : St) : HCalls Tryz.prog 26 [.agg (encR c), .bool w] σ (fun d σ' => d = .tuple [.agg (encR (takeC c w).1), .agg (encN (takeC c w).2)] ∧ σ' = σ) := by
  refine hcalls_body (fn := Tryz.f26) rfl c26 (by simp [h26]) (by simp [h26, Tryz.f26]) ?_
  intro M hP hr hnt hnx hwf hlt
  simp only [h26, argEnv]
  have hnt' : M.nt = 47 := hnt
  have fin0 : ∀ (env : Env) (σ' : St), Ext σ σ' → look env 4 = .ptr (σ.next + 1) 0 → look env 5 = .ptr (σ.next + 2) 0 → σ'.obj (σ.next + 1) = some (.bx none (encR (failC c 2))) → σ'.obj (σ.next + 2) = some (.bx none [.int .i64 0, .str ⟨#[]⟩, .str ⟨#[]⟩, .int .i64 0, .slice .nil 0 []]) →
      takeC c w = (failC c 2, zNd) → FPost M.gS.next [HR.cell 4 (some 6), HR.cell 5 (some 5)] (fun d s => d = .tuple [.agg (encR (takeC c w).1), .agg (encN (takeC c w).2)] ∧ s = σ) .ret env σ' := fun env σ' hx h4 h5 k4 k5 ht => by
    rw [ht]
    exact fp_cell2 (by rw [hnx]; exact Nat.le_refl _) hwf hx h4 k4 rfl (encR_lt _ _) h5 k5 rfl (node_lt _) wk_node
  cases w with
  | false =>
    have ht : takeC c false = (failC c 2, zNd) := by unfold takeC; rw [if_neg (fun h => by cases h.1)]
    refine hgo_sound 60 ?_
    simp -implicitDefEqProofs (maxSteps := 1000000) only [simpS, ↓condJ_true, ↓condJ_false, ↓reduceIte, Nat.reduceEqDiff, Nat.reduceLT, Nat.reduceLeDiff, reduceCtorEq, Nat.reduceAdd, Nat.reduceSub, noneS, listS, implies_true, forall_const, ne_eq]
    refine hx_call (f := .fn 18) rfl (by rw [hP]; exact hcallD_func (rfail_calls c hc 2 _)) ?_
    rintro _ σ2 ⟨rfl, h⟩
    subst σ2
    refine hgo_sound 60 ?_
    simp -implicitDefEqProofs (maxSteps := 1000000) only [simpS, ↓condJ_true, ↓condJ_false, ↓reduceIte, Nat.reduceEqDiff, Nat.reduceLT, Nat.reduceLeDiff, reduceCtorEq, Nat.reduceAdd, Nat.reduceSub, noneS, listS, implies_true, forall_const, ne_eq]
    exact fin0 _ _ ((((Ext.refl _).new _).new _).new _) rfl rfl (by simp [St.obj_new, St.next_new]) (by simp [St.obj_new, St.next_new]) ht
  | true =>
    refine hgo_sound 60 ?_
    simp -implicitDefEqProofs (maxSteps := 1000000) only [simpS, ↓condJ_true, ↓condJ_false, ↓reduceIte, Nat.reduceEqDiff, Nat.reduceLT, Nat.reduceLeDiff, reduceCtorEq, Nat.reduceAdd, Nat.reduceSub, noneS, listS, implies_true, forall_const, ne_eq]
    refine hx_call (f := .fn 35) rfl (by rw [hP]; exact hcallD_func (rleft_calls c hc _)) ?_
    rintro _ σ2 ⟨rfl, h⟩
    subst σ2
    by_cases hl : leftC c = 0
    · have e0 : ((leftC c : Int) == 0) = true := by rw [hl]; rfl
      have ht : takeC c true = (failC c 2, zNd) := by unfold takeC; rw [if_neg (fun h => h.2 hl)]
      refine hgo_sound 60 ?_
      simp -implicitDefEqProofs (maxSteps := 1000000) only [simpS, ↓condJ_true, ↓condJ_false, ↓reduceIte, Nat.reduceEqDiff, Nat.reduceLT, Nat.reduceLeDiff, reduceCtorEq, Nat.reduceAdd, Nat.reduceSub, noneS, listS, implies_true, forall_const, ne_eq, e0]
      refine hx_call (f := .fn 18) rfl (by rw [hP]; exact hcallD_func (rfail_calls c hc 2 _)) ?_
      rintro _ σ2 ⟨rfl, h⟩
      subst σ2
      refine hgo_sound 60 ?_
      simp -implicitDefEqProofs (maxSteps := 1000000) only [simpS, ↓condJ_true, ↓condJ_false, ↓reduceIte, Nat.reduceEqDiff, Nat.reduceLT, Nat.reduceLeDiff, reduceCtorEq, Nat.reduceAdd, Nat.reduceSub, noneS, listS, implies_true, forall_const, ne_eq]
      exact fin0 _ _ ((((Ext.refl _).new _).new _).new _) rfl rfl (by simp [St.obj_new, St.next_new]) (by simp [St.obj_new, St.next_new]) ht
    · have e0 : ((leftC c : Int) == 0) = false := by simp; omega
      obtain ⟨he, hj⟩ := leftC_lt (c := c) (j := 0) (by omega)
      have hg := encTk_get c.L c.n hj
      have hlt2 : (c.n : Int) < (c.L.length : Int) := by omega
      have hgd : c.L.getD c.n ⟨0, 0, 0⟩ = c.L[c.n] := by simp [List.getD, show c.n < c.L.length from hj]
      have hx := hc.in_ c.L[c.n] (List.getElem_mem _)
      have hlf := hc.lastf c.L[c.n] (by simp [show c.n < c.L.length from hj])
      have ht : takeC c true = ({ c with n := c.n + 1, la := (c.L[c.n]).t }, .mk 1 (c.s.extract c.la (c.L[c.n]).f) (textT c.s (c.L[c.n])) ((c.L[c.n]).f : Int) []) := by unfold takeC; rw [if_pos ⟨rfl, hl⟩, hgd]
      have htx : textT c.s c.L[c.n] = c.s.extract c.L[c.n].f c.L[c.n].t := rfl
      rw [htx] at ht
      generalize c.L[c.n] = x at *
      have p1 : (x.f : Int) ≤ (c.s.size : Int) := by omega
      have p2 : (c.la : Int) ≤ (x.f : Int) := by omega
      have p3 : (x.f : Int) ≤ (x.t : Int) := by omega
      have p4 : (x.t : Int) ≤ (c.s.size : Int) := by omega
      refine hgo_sound 60 ?_
      simp -implicitDefEqProofs (maxSteps := 1000000) only [simpS, ↓condJ_true, ↓condJ_false, ↓reduceIte, Nat.reduceEqDiff, Nat.reduceLT, Nat.reduceLeDiff, reduceCtorEq, Nat.reduceAdd, Nat.reduceSub, noneS, listS, implies_true, forall_const, ne_eq, e0, encTk_length, hg, hlt2, Int.toNat_natCast, Int.natCast_nonneg]
      refine hx_drawK [.ptr σ.next 0, .str c.s, .agg (encR c), .int .i64 (c.la : Int), .ptr (σ.next + 3) 1, .int .i64 (x.f : Int), .str (c.s.extract c.la x.f), .ptr σ.next 0, .str c.s, .ptr (σ.next + 3) 1, .int .i64 (x.f : Int), .ptr (σ.next + 3) 2, .int .i64 (x.t : Int), .str (c.s.extract x.f x.t), .ptr (σ.next + 3) 1, .int .i64 (x.f : Int), .agg [.int .i64 1, .str (c.s.extract c.la x.f), .str (c.s.extract x.f x.t), .int .i64 (x.f : Int), .slice .nil 0 []], .ptr (σ.next + 4) 0, .undef]
        (drS ((((σ.new (.box (encR c))).new (.box [.str ⟨#[]⟩, .slice .nil 0 [], .int .i64 0, .int .i64 0, .int .i64 0, .int .i64 0])).new (.box [.int .i64 0, .str ⟨#[]⟩, .str ⟨#[]⟩, .int .i64 0, .slice .nil 0 []])).new (.box (encK3 x))) (((((σ.new (.box (encR c))).new (.box [.str ⟨#[]⟩, .slice .nil 0 [], .int .i64 0, .int .i64 0, .int .i64 0, .int .i64 0])).new (.box [.int .i64 0, .str ⟨#[]⟩, .str ⟨#[]⟩, .int .i64 0, .slice .nil 0 []])).new (.box (encK3 x))).new (.box [.int .i64 0, .str ⟨#[]⟩, .str ⟨#[]⟩, .int .i64 0, .slice .nil 0 []])) (((((σ.new (.box (encR c))).new (.box [.str ⟨#[]⟩, .slice .nil 0 [], .int .i64 0, .int .i64 0, .int .i64 0, .int .i64 0])).new (.box [.int .i64 0, .str ⟨#[]⟩, .str ⟨#[]⟩, .int .i64 0, .slice .nil 0 []])).new (.box (encK3 x))).new (.box [.int .i64 1, .str (c.s.extract c.la x.f), .str (c.s.extract x.f x.t), .int .i64 (x.f : Int), .slice .nil 0 []])) 17 18)
        (by rw [hnt']; rfl) (drS_start _ _ _ _ _) ?_ ?_
      · intro L hC
        have o0 := drS_all (L := L) (a := 17) (b := 18) (S0 := ((((σ.new (.box (encR c))).new (.box [.str ⟨#[]⟩, .slice .nil 0 [], .int .i64 0, .int .i64 0, .int .i64 0, .int .i64 0])).new (.box [.int .i64 0, .str ⟨#[]⟩, .str ⟨#[]⟩, .int .i64 0, .slice .nil 0 []])).new (.box (encK3 x)))) (S1 := (((((σ.new (.box (encR c))).new (.box [.str ⟨#[]⟩, .slice .nil 0 [], .int .i64 0, .int .i64 0, .int .i64 0, .int .i64 0])).new (.box [.int .i64 0, .str ⟨#[]⟩, .str ⟨#[]⟩, .int .i64 0, .slice .nil 0 []])).new (.box (encK3 x))).new (.box [.int .i64 0, .str ⟨#[]⟩, .str ⟨#[]⟩, .int .i64 0, .slice .nil 0 []]))) (S2 := (((((σ.new (.box (encR c))).new (.box [.str ⟨#[]⟩, .slice .nil 0 [], .int .i64 0, .int .i64 0, .int .i64 0, .int .i64 0])).new (.box [.int .i64 0, .str ⟨#[]⟩, .str ⟨#[]⟩, .int .i64 0, .slice .nil 0 []])).new (.box (encK3 x))).new (.box [.int .i64 1, .str (c.s.extract c.la x.f), .str (c.s.extract x.f x.t), .int .i64 (x.f : Int), .slice .nil 0 []]))) (o := some (.box (encR c))) (id := σ.next)
          (by simp -implicitDefEqProofs (maxSteps := 1000000) only [simpS, ↓condJ_true, ↓condJ_false, ↓reduceIte, Nat.reduceEqDiff, Nat.reduceLT, Nat.reduceLeDiff, reduceCtorEq, Nat.reduceAdd, Nat.reduceSub, noneS, listS, implies_true, forall_const, ne_eq]) (by simp -implicitDefEqProofs (maxSteps := 1000000) only [simpS, ↓condJ_true, ↓condJ_false, ↓reduceIte, Nat.reduceEqDiff, Nat.reduceLT, Nat.reduceLeDiff, reduceCtorEq, Nat.reduceAdd, Nat.reduceSub, noneS, listS, implies_true, forall_const, ne_eq]) (by simp -implicitDefEqProofs (maxSteps := 1000000) only [simpS, ↓condJ_true, ↓condJ_false, ↓reduceIte, Nat.reduceEqDiff, Nat.reduceLT, Nat.reduceLeDiff, reduceCtorEq, Nat.reduceAdd, Nat.reduceSub, noneS, listS, implies_true, forall_const, ne_eq])
        have o1 := drS_all (L := L) (a := 17) (b := 18) (S0 := ((((σ.new (.box (encR c))).new (.box [.str ⟨#[]⟩, .slice .nil 0 [], .int .i64 0, .int .i64 0, .int .i64 0, .int .i64 0])).new (.box [.int .i64 0, .str ⟨#[]⟩, .str ⟨#[]⟩, .int .i64 0, .slice .nil 0 []])).new (.box (encK3 x)))) (S1 := (((((σ.new (.box (encR c))).new (.box [.str ⟨#[]⟩, .slice .nil 0 [], .int .i64 0, .int .i64 0, .int .i64 0, .int .i64 0])).new (.box [.int .i64 0, .str ⟨#[]⟩, .str ⟨#[]⟩, .int .i64 0, .slice .nil 0 []])).new (.box (encK3 x))).new (.box [.int .i64 0, .str ⟨#[]⟩, .str ⟨#[]⟩, .int .i64 0, .slice .nil 0 []]))) (S2 := (((((σ.new (.box (encR c))).new (.box [.str ⟨#[]⟩, .slice .nil 0 [], .int .i64 0, .int .i64 0, .int .i64 0, .int .i64 0])).new (.box [.int .i64 0, .str ⟨#[]⟩, .str ⟨#[]⟩, .int .i64 0, .slice .nil 0 []])).new (.box (encK3 x))).new (.box [.int .i64 1, .str (c.s.extract c.la x.f), .str (c.s.extract x.f x.t), .int .i64 (x.f : Int), .slice .nil 0 []]))) (o := some (.box (encK3 x))) (id := σ.next + 3)
          (by simp -implicitDefEqProofs (maxSteps := 1000000) only [simpS, ↓condJ_true, ↓condJ_false, ↓reduceIte, Nat.reduceEqDiff, Nat.reduceLT, Nat.reduceLeDiff, reduceCtorEq, Nat.reduceAdd, Nat.reduceSub, noneS, listS, implies_true, forall_const, ne_eq]) (by simp -implicitDefEqProofs (maxSteps := 1000000) only [simpS, ↓condJ_true, ↓condJ_false, ↓reduceIte, Nat.reduceEqDiff, Nat.reduceLT, Nat.reduceLeDiff, reduceCtorEq, Nat.reduceAdd, Nat.reduceSub, noneS, listS, implies_true, forall_const, ne_eq]) (by simp -implicitDefEqProofs (maxSteps := 1000000) only [simpS, ↓condJ_true, ↓condJ_false, ↓reduceIte, Nat.reduceEqDiff, Nat.reduceLT, Nat.reduceLeDiff, reduceCtorEq, Nat.reduceAdd, Nat.reduceSub, noneS, listS, implies_true, forall_const, ne_eq])
        simp only [allD_nil, allD_cons]
        refine ⟨fun hi ha => ?_, fun hi ha => ?_, fun hi ha => ?_, fun hi ha => ?_, fun hi ha => ?_, fun hi ha => ?_, fun hi ha => ?_, fun hi ha => ?_, fun hi ha => ?_, fun hi ha => ?_, fun hi ha => ?_, fun hi ha => ?_, fun hi ha => ?_, fun hi ha => ?_, fun hi ha => ?_, fun hi ha => ?_, fun hi ha => ?_, fun hi ha => ?_, fun hi ha => ?_, trivial⟩
        · simp -implicitDefEqProofs (maxSteps := 3000000) only [dsetS, listS, simpS, ↓condJ_true, ↓condJ_false, ↓reduceIte, Nat.reduceEqDiff, Nat.reduceLT, Nat.reduceLeDiff, reduceCtorEq, Nat.reduceAdd, Nat.reduceSub, noneS, listS, implies_true, forall_const, ne_eq, hnt', o0, o1, valV, List.getD_cons_zero, List.getD_cons_succ, p1, p2, p3, p4, Int.toNat_natCast, Int.natCast_nonneg]
          first | exact (drS_upd (by decide) (by decide)).symm | exact ⟨rfl, (drS_upd (by decide) (by decide)).symm⟩
        · simp -implicitDefEqProofs (maxSteps := 3000000) only [dsetS, listS, simpS, ↓condJ_true, ↓condJ_false, ↓reduceIte, Nat.reduceEqDiff, Nat.reduceLT, Nat.reduceLeDiff, reduceCtorEq, Nat.reduceAdd, Nat.reduceSub, noneS, listS, implies_true, forall_const, ne_eq, hnt', o0, o1, valV, List.getD_cons_zero, List.getD_cons_succ, p1, p2, p3, p4, Int.toNat_natCast, Int.natCast_nonneg]
          first | exact (drS_upd (by decide) (by decide)).symm | exact ⟨rfl, (drS_upd (by decide) (by decide)).symm⟩
        · simp -implicitDefEqProofs (maxSteps := 3000000) only [dsetS, listS, simpS, ↓condJ_true, ↓condJ_false, ↓reduceIte, Nat.reduceEqDiff, Nat.reduceLT, Nat.reduceLeDiff, reduceCtorEq, Nat.reduceAdd, Nat.reduceSub, noneS, listS, implies_true, forall_const, ne_eq, hnt', o0, o1, valV, List.getD_cons_zero, List.getD_cons_succ, p1, p2, p3, p4, Int.toNat_natCast, Int.natCast_nonneg]
          first | exact (drS_upd (by decide) (by decide)).symm | exact ⟨rfl, (drS_upd (by decide) (by decide)).symm⟩
        · simp -implicitDefEqProofs (maxSteps := 3000000) only [dsetS, listS, simpS, ↓condJ_true, ↓condJ_false, ↓reduceIte, Nat.reduceEqDiff, Nat.reduceLT, Nat.reduceLeDiff, reduceCtorEq, Nat.reduceAdd, Nat.reduceSub, noneS, listS, implies_true, forall_const, ne_eq, hnt', o0, o1, valV, List.getD_cons_zero, List.getD_cons_succ, p1, p2, p3, p4, Int.toNat_natCast, Int.natCast_nonneg]
          refine ⟨_, _, _, rfl, by rw [hP]; exact hcallD_func (rlast_calls c hc hlk _), ?_⟩
          rintro _ σ2 ⟨rfl, h⟩
          subst σ2
          first | exact (drS_upd (by decide) (by decide)).symm | exact ⟨rfl, (drS_upd (by decide) (by decide)).symm⟩
        · simp -implicitDefEqProofs (maxSteps := 3000000) only [dsetS, listS, simpS, ↓condJ_true, ↓condJ_false, ↓reduceIte, Nat.reduceEqDiff, Nat.reduceLT, Nat.reduceLeDiff, reduceCtorEq, Nat.reduceAdd, Nat.reduceSub, noneS, listS, implies_true, forall_const, ne_eq, hnt', o0, o1, valV, List.getD_cons_zero, List.getD_cons_succ, p1, p2, p3, p4, Int.toNat_natCast, Int.natCast_nonneg]
          first | exact (drS_upd (by decide) (by decide)).symm | exact ⟨rfl, (drS_upd (by decide) (by decide)).symm⟩
        · simp -implicitDefEqProofs (maxSteps := 3000000) only [dsetS, listS, simpS, ↓condJ_true, ↓condJ_false, ↓reduceIte, Nat.reduceEqDiff, Nat.reduceLT, Nat.reduceLeDiff, reduceCtorEq, Nat.reduceAdd, Nat.reduceSub, noneS, listS, implies_true, forall_const, ne_eq, hnt', o0, o1, valV, List.getD_cons_zero, List.getD_cons_succ, p1, p2, p3, p4, Int.toNat_natCast, Int.natCast_nonneg]
          first | exact (drS_upd (by decide) (by decide)).symm | exact ⟨rfl, (drS_upd (by decide) (by decide)).symm⟩
        · simp -implicitDefEqProofs (maxSteps := 3000000) only [dsetS, listS, simpS, ↓condJ_true, ↓condJ_false, ↓reduceIte, Nat.reduceEqDiff, Nat.reduceLT, Nat.reduceLeDiff, reduceCtorEq, Nat.reduceAdd, Nat.reduceSub, noneS, listS, implies_true, forall_const, ne_eq, hnt', o0, o1, valV, List.getD_cons_zero, List.getD_cons_succ, p1, p2, p3, p4, Int.toNat_natCast, Int.natCast_nonneg]
          first | exact (drS_upd (by decide) (by decide)).symm | exact ⟨rfl, (drS_upd (by decide) (by decide)).symm⟩
        · simp -implicitDefEqProofs (maxSteps := 3000000) only [dsetS, listS, simpS, ↓condJ_true, ↓condJ_false, ↓reduceIte, Nat.reduceEqDiff, Nat.reduceLT, Nat.reduceLeDiff, reduceCtorEq, Nat.reduceAdd, Nat.reduceSub, noneS, listS, implies_true, forall_const, ne_eq, hnt', o0, o1, valV, List.getD_cons_zero, List.getD_cons_succ, p1, p2, p3, p4, Int.toNat_natCast, Int.natCast_nonneg]
          first | exact (drS_upd (by decide) (by decide)).symm | exact ⟨rfl, (drS_upd (by decide) (by decide)).symm⟩
        · simp -implicitDefEqProofs (maxSteps := 3000000) only [dsetS, listS, simpS, ↓condJ_true, ↓condJ_false, ↓reduceIte, Nat.reduceEqDiff, Nat.reduceLT, Nat.reduceLeDiff, reduceCtorEq, Nat.reduceAdd, Nat.reduceSub, noneS, listS, implies_true, forall_const, ne_eq, hnt', o0, o1, valV, List.getD_cons_zero, List.getD_cons_succ, p1, p2, p3, p4, Int.toNat_natCast, Int.natCast_nonneg]
          first | exact (drS_upd (by decide) (by decide)).symm | exact ⟨rfl, (drS_upd (by decide) (by decide)).symm⟩
        · simp -implicitDefEqProofs (maxSteps := 3000000) only [dsetS, listS, simpS, ↓condJ_true, ↓condJ_false, ↓reduceIte, Nat.reduceEqDiff, Nat.reduceLT, Nat.reduceLeDiff, reduceCtorEq, Nat.reduceAdd, Nat.reduceSub, noneS, listS, implies_true, forall_const, ne_eq, hnt', o0, o1, valV, List.getD_cons_zero, List.getD_cons_succ, p1, p2, p3, p4, Int.toNat_natCast, Int.natCast_nonneg]
          first | exact (drS_upd (by decide) (by decide)).symm | exact ⟨rfl, (drS_upd (by decide) (by decide)).symm⟩
        · simp -implicitDefEqProofs (maxSteps := 3000000) only [dsetS, listS, simpS, ↓condJ_true, ↓condJ_false, ↓reduceIte, Nat.reduceEqDiff, Nat.reduceLT, Nat.reduceLeDiff, reduceCtorEq, Nat.reduceAdd, Nat.reduceSub, noneS, listS, implies_true, forall_const, ne_eq, hnt', o0, o1, valV, List.getD_cons_zero, List.getD_cons_succ, p1, p2, p3, p4, Int.toNat_natCast, Int.natCast_nonneg]
          first | exact (drS_upd (by decide) (by decide)).symm | exact ⟨rfl, (drS_upd (by decide) (by decide)).symm⟩
        · simp -implicitDefEqProofs (maxSteps := 3000000) only [dsetS, listS, simpS, ↓condJ_true, ↓condJ_false, ↓reduceIte, Nat.reduceEqDiff, Nat.reduceLT, Nat.reduceLeDiff, reduceCtorEq, Nat.reduceAdd, Nat.reduceSub, noneS, listS, implies_true, forall_const, ne_eq, hnt', o0, o1, valV, List.getD_cons_zero, List.getD_cons_succ, p1, p2, p3, p4, Int.toNat_natCast, Int.natCast_nonneg]
          first | exact (drS_upd (by decide) (by decide)).symm | exact ⟨rfl, (drS_upd (by decide) (by decide)).symm⟩
        · simp -implicitDefEqProofs (maxSteps := 3000000) only [dsetS, listS, simpS, ↓condJ_true, ↓condJ_false, ↓reduceIte, Nat.reduceEqDiff, Nat.reduceLT, Nat.reduceLeDiff, reduceCtorEq, Nat.reduceAdd, Nat.reduceSub, noneS, listS, implies_true, forall_const, ne_eq, hnt', o0, o1, valV, List.getD_cons_zero, List.getD_cons_succ, p1, p2, p3, p4, Int.toNat_natCast, Int.natCast_nonneg]
          first | exact (drS_upd (by decide) (by decide)).symm | exact ⟨rfl, (drS_upd (by decide) (by decide)).symm⟩
        · simp -implicitDefEqProofs (maxSteps := 3000000) only [dsetS, listS, simpS, ↓condJ_true, ↓condJ_false, ↓reduceIte, Nat.reduceEqDiff, Nat.reduceLT, Nat.reduceLeDiff, reduceCtorEq, Nat.reduceAdd, Nat.reduceSub, noneS, listS, implies_true, forall_const, ne_eq, hnt', o0, o1, valV, List.getD_cons_zero, List.getD_cons_succ, p1, p2, p3, p4, Int.toNat_natCast, Int.natCast_nonneg]
          first | exact (drS_upd (by decide) (by decide)).symm | exact ⟨rfl, (drS_upd (by decide) (by decide)).symm⟩
        · simp -implicitDefEqProofs (maxSteps := 3000000) only [dsetS, listS, simpS, ↓condJ_true, ↓condJ_false, ↓reduceIte, Nat.reduceEqDiff, Nat.reduceLT, Nat.reduceLeDiff, reduceCtorEq, Nat.reduceAdd, Nat.reduceSub, noneS, listS, implies_true, forall_const, ne_eq, hnt', o0, o1, valV, List.getD_cons_zero, List.getD_cons_succ, p1, p2, p3, p4, Int.toNat_natCast, Int.natCast_nonneg]
          first | exact (drS_upd (by decide) (by decide)).symm | exact ⟨rfl, (drS_upd (by decide) (by decide)).symm⟩
        · simp -implicitDefEqProofs (maxSteps := 3000000) only [dsetS, listS, simpS, ↓condJ_true, ↓condJ_false, ↓reduceIte, Nat.reduceEqDiff, Nat.reduceLT, Nat.reduceLeDiff, reduceCtorEq, Nat.reduceAdd, Nat.reduceSub, noneS, listS, implies_true, forall_const, ne_eq, hnt', o0, o1, valV, List.getD_cons_zero, List.getD_cons_succ, p1, p2, p3, p4, Int.toNat_natCast, Int.natCast_nonneg]
          first | exact (drS_upd (by decide) (by decide)).symm | exact ⟨rfl, (drS_upd (by decide) (by decide)).symm⟩
        · simp -implicitDefEqProofs (maxSteps := 3000000) only [dsetS, listS, simpS, ↓condJ_true, ↓condJ_false, ↓reduceIte, Nat.reduceEqDiff, Nat.reduceLT, Nat.reduceLeDiff, reduceCtorEq, Nat.reduceAdd, Nat.reduceSub, noneS, listS, implies_true, forall_const, ne_eq, hnt', o0, o1, valV, List.getD_cons_zero, List.getD_cons_succ, p1, p2, p3, p4, Int.toNat_natCast, Int.natCast_nonneg]
          first | exact (drS_upd (by decide) (by decide)).symm | exact ⟨rfl, (drS_upd (by decide) (by decide)).symm⟩
        · have hb : L 18 = false := by
            cases hb : L 18
            · rfl
            · have := hC 18 _ rfl hb 17 (by decide)
              rw [this] at hi
              cases hi
          rw [drS_0 hi hb]
          simp -implicitDefEqProofs (maxSteps := 3000000) only [dsetS, listS, simpS, ↓condJ_true, ↓condJ_false, ↓reduceIte, Nat.reduceEqDiff, Nat.reduceLT, Nat.reduceLeDiff, reduceCtorEq, Nat.reduceAdd, Nat.reduceSub, noneS, listS, implies_true, forall_const, ne_eq, hnt', o0, o1, valV, List.getD_cons_zero, List.getD_cons_succ, p1, p2, p3, p4, Int.toNat_natCast, Int.natCast_nonneg]
          first | exact (drS_a hb (by decide)).symm | exact ⟨rfl, (drS_a hb (by decide)).symm⟩
        · have hb : L 17 = true := ha 17 (by decide)
          rw [drS_1 hb hi]
          simp -implicitDefEqProofs (maxSteps := 3000000) only [dsetS, listS, simpS, ↓condJ_true, ↓condJ_false, ↓reduceIte, Nat.reduceEqDiff, Nat.reduceLT, Nat.reduceLeDiff, reduceCtorEq, Nat.reduceAdd, Nat.reduceSub, noneS, listS, implies_true, forall_const, ne_eq, hnt', o0, o1, valV, List.getD_cons_zero, List.getD_cons_succ, p1, p2, p3, p4, Int.toNat_natCast, Int.natCast_nonneg]
          first | exact drS_b.symm | exact ⟨rfl, drS_b.symm⟩
      · intro L hall
        have hs : ∀ S0 S1 S2 : St, drS S0 S1 S2 17 18 L = S2 := fun _ _ _ => by
          unfold drS
          rw [if_pos (hall 18 (by decide))]
        rw [hs]
        simp -implicitDefEqProofs (maxSteps := 3000000) only [dsetS, listS, simpS, ↓condJ_true, ↓condJ_false, ↓reduceIte, Nat.reduceEqDiff, Nat.reduceLT, Nat.reduceLeDiff, reduceCtorEq, Nat.reduceAdd, Nat.reduceSub, noneS, listS, implies_true, forall_const, ne_eq, hnt', valV, List.getD_cons_zero, List.getD_cons_succ]
        have hwn : IntKind.i64.wrap ((c.n : Int) + 1) = ((c.n + 1 : Nat) : Int) := by
          have := hc.len; have := hc.small
          rw [IntWalk.i64_in _ (by omega)]; rfl
        refine hgo_sound 60 ?_
        simp -implicitDefEqProofs (maxSteps := 1000000) only [simpS, ↓condJ_true, ↓condJ_false, ↓reduceIte, Nat.reduceEqDiff, Nat.reduceLT, Nat.reduceLeDiff, reduceCtorEq, Nat.reduceAdd, Nat.reduceSub, noneS, listS, implies_true, forall_const, ne_eq, hwn]
        refine hx_drawgo 4 ?_
        simp -implicitDefEqProofs (maxSteps := 100000000) only [drawS, listS, List.getElem?_cons_zero, List.getElem?_cons_succ, List.getElem?_nil, simpS, ↓condJ_true, ↓condJ_false, ↓reduceIte, Nat.reduceEqDiff, Nat.reduceLT, Nat.reduceLeDiff, reduceCtorEq, Nat.reduceAdd, Nat.reduceSub, noneS, listS, implies_true, forall_const, ne_eq, hnt']
        refine hgo_sound 60 ?_
        simp -implicitDefEqProofs (maxSteps := 1000000) only [simpS, ↓condJ_true, ↓condJ_false, ↓reduceIte, Nat.reduceEqDiff, Nat.reduceLT, Nat.reduceLeDiff, reduceCtorEq, Nat.reduceAdd, Nat.reduceSub, noneS, listS, implies_true, forall_const, ne_eq]
        rw [ht]
        exact fp_cell2 (by rw [hnx]; exact Nat.le_refl _) hwf ((((((Ext.refl _).new _).new _).new _).new _).new _) rfl (by simp [St.obj_new, St.next_new]; rfl) rfl (encR_lt { c with n := c.n + 1, la := x.t } _) rfl (by simp [St.obj_new, St.next_new]; rfl) rfl (node_lt _) wk_node

theorem rany_calls (c : Cu) (hc : c.ok) (hlk : c.lok) (k : Int) (σ : St) : HCalls Tryz.prog 9 [.agg (encR c), .int .i64 k] σ (fun d σ' => d = .tuple [.agg (encR (anyC c k).1), .agg (encN (anyC c k).2)] ∧ σ' = σ) := by
  refine hcalls_body (fn := Tryz.f9) rfl c9 (by simp [h9]) (by simp [h9, Tryz.f9]) ?_
  intro M hP hr hnt hnx hwf hlt
  simp only [h9, argEnv]
  have hnt' : M.nt = 20 := hnt
  refine hgo_sound 60 ?_
  simp -implicitDefEqProofs (maxSteps := 1000000) only [simpS, ↓condJ_true, ↓condJ_false, ↓reduceIte, Nat.reduceEqDiff, Nat.reduceLT, Nat.reduceLeDiff, reduceCtorEq, Nat.reduceAdd, Nat.reduceSub, noneS, listS, implies_true, forall_const, ne_eq]
  refine hx_call (f := .fn 25) rfl (by rw [hP]; exact hcallD_func (rpeek_calls c hc 0 _)) ?_
  rintro _ σ2 ⟨rfl, h⟩
  subst σ2
  refine hgo_sound 60 ?_
  simp -implicitDefEqProofs (maxSteps := 1000000) only [simpS, ↓condJ_true, ↓condJ_false, ↓reduceIte, Nat.reduceEqDiff, Nat.reduceLT, Nat.reduceLeDiff, reduceCtorEq, Nat.reduceAdd, Nat.reduceSub, noneS, listS, implies_true, forall_const, ne_eq]
  refine hx_call (f := .fn 26) rfl (by rw [hP]; exact hcallD_func (rtake_calls c hc hlk (((peekC c 0).1 : Int) == k) _)) ?_
  rintro _ σ2 ⟨rfl, h⟩
  subst σ2
  rw [show takeC c (((peekC c 0).1 : Int) == k) = anyC c k from rfl]
  refine hgo_sound 60 ?_
  simp -implicitDefEqProofs (maxSteps := 1000000) only [simpS, ↓condJ_true, ↓condJ_false, ↓reduceIte, Nat.reduceEqDiff, Nat.reduceLT, Nat.reduceLeDiff, reduceCtorEq, Nat.reduceAdd, Nat.reduceSub, noneS, listS, implies_true, forall_const, ne_eq, encN_length]
  exact fp_cell2 (by rw [hnx]; exact Nat.le_refl _) hwf ((((Ext.refl _).new _).new _).new _) rfl (by simp [St.obj_new, St.next_new]; rfl) rfl (encR_lt (anyC c k).1 _) rfl (by simp [St.obj_new, St.next_new]; rfl) (encN_length _) (encN_lt _ _) (.refl _)

theorem rwant_calls (c : Cu) (hc : c.ok) (hlk : c.lok) (x : ByteArray) (σ : St) : HCalls Tryz.prog 12 [.agg (encR c), .str x] σ (fun d σ' => d = .tuple [.agg (encR (wantC c x).1), .agg (encN (wantC c x).2)] ∧ σ' = σ) := by
  refine hcalls_body (fn := Tryz.f12) rfl c12 (by simp [h12]) (by simp [h12, Tryz.f12]) ?_
  intro M hP hr hnt hnx hwf hlt
  simp only [h12, argEnv]
  have hnt' : M.nt = 13 := hnt
  refine hgo_sound 60 ?_
  simp -implicitDefEqProofs (maxSteps := 1000000) only [simpS, ↓condJ_true, ↓condJ_false, ↓reduceIte, Nat.reduceEqDiff, Nat.reduceLT, Nat.reduceLeDiff, reduceCtorEq, Nat.reduceAdd, Nat.reduceSub, noneS, listS, implies_true, forall_const, ne_eq]
  refine hx_drawgo 1 ?_
  simp -implicitDefEqProofs (maxSteps := 100000000) only [drawS, listS, List.getElem?_cons_zero, List.getElem?_cons_succ, List.getElem?_nil, simpS, ↓condJ_true, ↓condJ_false, ↓reduceIte, Nat.reduceEqDiff, Nat.reduceLT, Nat.reduceLeDiff, reduceCtorEq, Nat.reduceAdd, Nat.reduceSub, noneS, listS, implies_true, forall_const, ne_eq, hnt']
  refine hd_call (i := 3) (f := .fn 30) (by simp -implicitDefEqProofs (maxSteps := 100000000) only [drawS, listS, List.getElem?_cons_zero, List.getElem?_cons_succ, List.getElem?_nil, simpS, ↓condJ_true, ↓condJ_false, ↓reduceIte, Nat.reduceEqDiff, Nat.reduceLT, Nat.reduceLeDiff, reduceCtorEq, Nat.reduceAdd, Nat.reduceSub, noneS, listS, implies_true, forall_const, ne_eq, hnt']) (by rfl) (by rfl) rfl (by rfl) (by rw [hP]; exact hcallD_func (ris_calls c hc 0 x _)) ?_
  rintro _ σ2 ⟨rfl, h⟩
  subst σ2
  refine hdgo_sound 1 ?_
  simp -implicitDefEqProofs (maxSteps := 3000000) only [drawS, listS, List.getElem?_cons_zero, List.getElem?_cons_succ, List.getElem?_nil, simpS, ↓condJ_true, ↓condJ_false, ↓reduceIte, Nat.reduceEqDiff, Nat.reduceLT, Nat.reduceLeDiff, reduceCtorEq, Nat.reduceAdd, Nat.reduceSub, noneS, listS, implies_true, forall_const, ne_eq, hnt']
  refine hd_call (i := 4) (f := .fn 26) (by simp -implicitDefEqProofs (maxSteps := 100000000) only [drawS, listS, List.getElem?_cons_zero, List.getElem?_cons_succ, List.getElem?_nil, simpS, ↓condJ_true, ↓condJ_false, ↓reduceIte, Nat.reduceEqDiff, Nat.reduceLT, Nat.reduceLeDiff, reduceCtorEq, Nat.reduceAdd, Nat.reduceSub, noneS, listS, implies_true, forall_const, ne_eq, hnt', encN_length]) (by rfl) (by rfl) rfl (by rfl) (by rw [hP]; exact hcallD_func (rtake_calls c hc hlk (isC c 0 x) _)) ?_
  rintro _ σ2 ⟨rfl, h⟩
  subst σ2
  refine hdgo_sound 3 ?_
  simp -implicitDefEqProofs (maxSteps := 3000000) only [drawS, listS, List.getElem?_cons_zero, List.getElem?_cons_succ, List.getElem?_nil, simpS, ↓condJ_true, ↓condJ_false, ↓reduceIte, Nat.reduceEqDiff, Nat.reduceLT, Nat.reduceLeDiff, reduceCtorEq, Nat.reduceAdd, Nat.reduceSub, noneS, listS, implies_true, forall_const, ne_eq, hnt', encN_length]
  rw [show takeC c (isC c 0 x) = wantC c x from rfl]
  refine hgo_sound 60 ?_
  simp -implicitDefEqProofs (maxSteps := 1000000) only [simpS, ↓condJ_true, ↓condJ_false, ↓reduceIte, Nat.reduceEqDiff, Nat.reduceLT, Nat.reduceLeDiff, reduceCtorEq, Nat.reduceAdd, Nat.reduceSub, noneS, listS, implies_true, forall_const, ne_eq, encN_length]
  exact fp_cell2 (by rw [hnx]; exact Nat.le_refl _) hwf ((((Ext.refl _).new _).new _).new _) rfl (by simp [St.obj_new, St.next_new]; rfl) rfl (encR_lt (wantC c x).1 _) rfl (by simp [St.obj_new, St.next_new]; rfl) (encN_length _) (encN_lt _ _) (.refl _)

end Go.Hl
set_option linter.unusedSectionVars false
set_option linter.unusedVariables false
set_option linter.unusedSimpArgs false
set_option maxRecDepth 100000
namespace Go.Hl
open Go Go.Proofs Go.RowKit

abbrev zR : List D := [.str ⟨#[]⟩, .slice .nil 0 [], .int .i64 0, .int .i64 0, .int .i64 0, .int .i64 0]

theorem fp_cellTT {n0 n t t2 t3 id : Nat} {σ σ' : St} {env : Env} {ot : Option Nat} {cs : List D} {d2 d3 : D} {d : D} (hn : n0 ≤ σ.next) (hwf : σ.wf) (hx : Ext σ σ') (h : look env t = .ptr id 0) (h2 : σ'.obj id = some (.bx ot cs)) (hl : cs.length = n) (hlt : ltL σ.next cs) (ht : look env t2 = d2) (hlt2 : d2.lt σ.next) (ht3 : look env t3 = d3) (hlt3 : d3.lt σ.next) (hw : Wk (.agg cs) d) :
    FPost n0 [HR.cell t (some n), HR.tmp t2, HR.tmp t3] (fun x s => x = .tuple [d, d2, d3] ∧ s = σ) .ret env σ' :=
  fpost_wk (σ0 := σ) (ds := [.agg cs, look env t2, look env t3]) (p := (0 + n ≤ cs.length) ∧ True) (.tuple (.cons hw (by rw [ht, ht3]; exact WkL.refl _))) (.inr rfl) hn hwf (hx.sub hwf) (resD_cellS h h2 hl rfl) ⟨by omega, trivial⟩ ⟨hlt, by rw [ht]; exact hlt2, by rw [ht3]; exact hlt3, trivial⟩ ⟨rfl, rfl⟩

def zC : Cu := ⟨⟨#[]⟩, [], 0, 0, 0, 0, 0⟩
theorem wk_zR : Wk (.agg zR) (.agg (encR zC)) := .agg (.cons (.refl _) (.cons .nil (.cons (.refl _) (.cons (.refl _) (.cons (.refl _) (.cons (.refl _) .nil))))))

theorem rnew_large (s : ByteArray) (hs : ¬ s.size ≤ 4000) (σ : St) : HCalls Tryz.prog 6 [.str s] σ (fun d σ' => d = .tuple [.agg (encR zC), .int .i64 4000, .int .i64 4] ∧ σ' = σ) := by
  refine hcalls_body (fn := Tryz.f6) rfl c6 (by simp [h6]) (by simp [h6, Tryz.f6]) ?_
  intro M hP hr hnt hnx hwf hlt
  simp only [h6, argEnv]
  have hnt' : M.nt = 25 := hnt
  have d : decide ((s.size : Int) > 4000) = true := decide_eq_true (by omega)
  refine hgo_sound 60 ?_
  simp -implicitDefEqProofs (maxSteps := 1000000) only [simpS, ↓condJ_true, ↓condJ_false, ↓reduceIte, Nat.reduceEqDiff, Nat.reduceLT, Nat.reduceLeDiff, reduceCtorEq, Nat.reduceAdd, Nat.reduceSub, noneS, listS, implies_true, forall_const, ne_eq, d]
  exact fp_cellTT (by rw [hnx]; exact Nat.le_refl _) hwf ((Ext.refl _).new _) rfl (by simp [St.obj_new, St.next_new]; rfl) rfl (show ltL _ zR from ⟨trivial, ⟨trivial, trivial⟩, trivial, trivial, trivial, trivial, trivial⟩) rfl trivial rfl trivial wk_zR

theorem rnew_bad (s : ByteArray) (hs : s.size ≤ 4000) (f : Nat) (hb : badAt (toks s.data.toList 0) = some f) (σ : St) : HCalls Tryz.prog 6 [.str s] σ (fun d σ' => d = .tuple [.agg (encR zC), .int .i64 (f : Int), .int .i64 2] ∧ σ' = σ) := by
  refine hcalls_body (fn := Tryz.f6) rfl c6 (by simp [h6]) (by simp [h6, Tryz.f6]) ?_
  intro M hP hr hnt hnx hwf hlt
  simp only [h6, argEnv]
  have hnt' : M.nt = 25 := hnt
  have d : decide ((s.size : Int) > 4000) = false := decide_eq_false (by omega)
  have hc := rreal_calls s (by omega)
  unfold realR realA realE at hc
  simp only [hb] at hc
  refine hgo_sound 60 ?_
  simp -implicitDefEqProofs (maxSteps := 1000000) only [simpS, ↓condJ_true, ↓condJ_false, ↓reduceIte, Nat.reduceEqDiff, Nat.reduceLT, Nat.reduceLeDiff, reduceCtorEq, Nat.reduceAdd, Nat.reduceSub, noneS, listS, implies_true, forall_const, ne_eq, d]
  refine hx_call (f := .fn 22) rfl (by rw [hP]; exact hcallD_func (hc _)) ?_
  rintro _ σ2 ⟨rfl, h⟩
  subst σ2
  have e1 : decide ((2 : Int) = 0) = false := rfl
  try simp only [e1]
  refine hgo_sound 60 ?_
  simp -implicitDefEqProofs (maxSteps := 1000000) only [simpS, ↓condJ_true, ↓condJ_false, ↓reduceIte, Nat.reduceEqDiff, Nat.reduceLT, Nat.reduceLeDiff, reduceCtorEq, Nat.reduceAdd, Nat.reduceSub, noneS, listS, implies_true, forall_const, ne_eq]
  exact fp_cellTT (by rw [hnx]; exact Nat.le_refl _) hwf ((Ext.refl _).new _) rfl (by simp [St.obj_new, St.next_new]; rfl) rfl (show ltL _ zR from ⟨trivial, ⟨trivial, trivial⟩, trivial, trivial, trivial, trivial, trivial⟩) rfl trivial rfl trivial wk_zR

theorem rnew_good (s : ByteArray) (hs : s.size ≤ 4000) (hb : badAt (toks s.data.toList 0) = none) (σ : St) : HCalls Tryz.prog 6 [.str s] σ (fun d σ' => d = .tuple [.agg (encR (startC s)), .int .i64 0, .int .i64 0] ∧ σ' = σ) := by
  refine hcalls_body (fn := Tryz.f6) rfl c6 (by simp [h6]) (by simp [h6, Tryz.f6]) ?_
  intro M hP hr hnt hnx hwf hlt
  simp only [h6, argEnv]
  have hnt' : M.nt = 25 := hnt
  have d : decide ((s.size : Int) > 4000) = false := decide_eq_false (by omega)
  have hc := rreal_calls s (by omega)
  unfold realR realA realE at hc
  simp only [hb] at hc
  refine hgo_sound 60 ?_
  simp -implicitDefEqProofs (maxSteps := 1000000) only [simpS, ↓condJ_true, ↓condJ_false, ↓reduceIte, Nat.reduceEqDiff, Nat.reduceLT, Nat.reduceLeDiff, reduceCtorEq, Nat.reduceAdd, Nat.reduceSub, noneS, listS, implies_true, forall_const, ne_eq, d]
  refine hx_call (f := .fn 22) rfl (by rw [hP]; exact hcallD_func (hc _)) ?_
  rintro _ σ2 ⟨rfl, h⟩
  subst σ2
  have e1 : decide ((0 : Int) = 0) = true := rfl
  try simp only [e1]
  refine hgo_sound 60 ?_
  simp -implicitDefEqProofs (maxSteps := 1000000) only [simpS, ↓condJ_true, ↓condJ_false, ↓reduceIte, Nat.reduceEqDiff, Nat.reduceLT, Nat.reduceLeDiff, reduceCtorEq, Nat.reduceAdd, Nat.reduceSub, noneS, listS, implies_true, forall_const, ne_eq]
  exact fp_cellTT (ot := none) (cs := encR (startC s)) (by rw [hnx]; exact Nat.le_refl _) hwf ((Ext.refl _).new _) rfl (by simp [St.obj_new, St.next_new, startC]) rfl (encR_lt (startC s) _) rfl trivial rfl trivial (.refl _)

theorem doc0_calls (k : Int) (g t : ByteArray) (a : Int) (σ : St) : HCalls Tryz.prog 27 [.agg (encN (.mk k g t a [])), .int .i64 5000] σ (fun d σ' => (∃ z : Int, d = .tuple [.agg (encN (.mk k g t a [])), .int .i64 z]) ∧ σ' = σ) := by
  refine hcalls_body (fn := Tryz.f27) rfl c27 (by simp [h27]) (by simp [h27, Tryz.f27]) ?_
  intro M hP hr hnt hnx hwf hlt
  simp only [h27, argEnv]
  have hnt' : M.nt = 55 := hnt
  have e0 : encN (.mk k g t a []) = [.int .i64 k, .str g, .str t, .int .i64 a, .slice .no 5 []] := rfl
  have h50 : (50 : Int) ≠ 0 := by decide
  rw [e0]
  refine hgo_sound 90 ?_
  simp -implicitDefEqProofs (maxSteps := 1000000) only [simpS, ↓condJ_true, ↓condJ_false, ↓reduceIte, Nat.reduceEqDiff, Nat.reduceLT, Nat.reduceLeDiff, reduceCtorEq, Nat.reduceAdd, Nat.reduceSub, noneS, listS, implies_true, forall_const, ne_eq, h50]
  generalize IntKind.i64.wrap (5000 - IntKind.i64.wrap (1 + IntKind.i64.wrap ((IntKind.i64.wrap ((g.size : Int) + (t.size : Int))).tdiv 50))) = z
  have d0 : decide ((0 : Int) < ((0 : Nat) : Int)) = false := rfl
  refine hx_know_code fun hw hl1 hn => ?_
  refine hx_loop (S := Unit) (fun _ => [(1, .int .i64 z), (4, .ptr (σ.next + 1) 0), (6, .ptr (σ.next + 2) 0), (32, .int .i64 ((0 : Nat) : Int)), (33, .int .i64 0)]) (fun _ => (((σ.new (.box [.int .i64 k, .str g, .str t, .int .i64 a, .slice .no 5 []])).new (.box [.int .i64 0, .str ⟨#[]⟩, .str ⟨#[]⟩, .int .i64 0, .slice .nil 0 []])).new (.box [.int .i64 k, .str g, .str t, .int .i64 a, .slice .nil 0 []])))
    (fun _ => True) (fun _ => 0) () trivial (fun _ _ h => by rw [hr] at h; cases h) ?_ ?_
  · exact Drop.all hw hn ⟨⟨rfl, trivial⟩, ⟨rfl, hl1 4⟩, ⟨rfl, hl1 6⟩, ⟨rfl, trivial⟩, ⟨rfl, trivial⟩, trivial⟩
  intro _ _
  refine hgo_sound 60 ?_
  simp -implicitDefEqProofs (maxSteps := 1000000) only [simpS, ↓condJ_true, ↓condJ_false, ↓reduceIte, Nat.reduceEqDiff, Nat.reduceLT, Nat.reduceLeDiff, reduceCtorEq, Nat.reduceAdd, Nat.reduceSub, noneS, listS, implies_true, forall_const, ne_eq, d0]
  refine fpost_wk (σ0 := σ) (ds := [.agg [.int .i64 k, .str g, .str t, .int .i64 a, .slice .nil 0 []], .int .i64 z]) (p := (0 + 5 ≤ 5) ∧ True) (.tuple (.cons wk_node (WkL.refl _))) (.inr rfl) (by rw [hnx]; exact Nat.le_refl _) hwf (((((Ext.refl _).new _).new _).new _).sub hwf) (resD_cellS (ot := none) rfl (by simp [St.obj_new, St.next_new]) rfl rfl) ⟨by omega, trivial⟩ ⟨node_lt _, trivial, trivial⟩ ⟨⟨z, rfl⟩, rfl⟩

theorem same0_calls (k : Int) (g t : ByteArray) (a : Int) (σ : St) : HCalls Tryz.prog 28 [.agg (encN (.mk k g t a [])), .agg (encN (.mk k g t a []))] σ (fun d σ' => d = .bool true ∧ σ' = σ) := by
  refine hcalls_body (fn := Tryz.f28) rfl c28 (by simp [h28]) (by simp [h28, Tryz.f28]) ?_
  intro M hP hr hnt hnx hwf hlt
  simp only [h28, argEnv]
  have hnt' : M.nt = 60 := hnt
  have e0 : encN (.mk k g t a []) = [.int .i64 k, .str g, .str t, .int .i64 a, .slice .no 5 []] := rfl
  have d1 : decide (¬ g = g) = false := by simp
  have d2 : decide (¬ t = t) = false := by simp
  have d3 : (!decide (g = g)) = false := by simp
  have d4 : (!decide (t = t)) = false := by simp
  rw [e0]
  refine hgo_sound 90 ?_
  simp -implicitDefEqProofs (maxSteps := 1000000) only [simpS, ↓condJ_true, ↓condJ_false, ↓reduceIte, Nat.reduceEqDiff, Nat.reduceLT, Nat.reduceLeDiff, reduceCtorEq, Nat.reduceAdd, Nat.reduceSub, noneS, listS, implies_true, forall_const, ne_eq, d1, d2, d3, d4]
  have d0 : decide ((0 : Int) < ((0 : Nat) : Int)) = false := rfl
  refine hx_know_code fun hw hl1 hn => ?_
  refine hx_loop (S := Unit) (fun _ => [(2, .ptr σ.next 0), (3, .ptr (σ.next + 1) 0), (5, .int .i64 0)]) (fun _ => ((σ.new (.box [.int .i64 k, .str g, .str t, .int .i64 a, .slice .no 5 []])).new (.box [.int .i64 k, .str g, .str t, .int .i64 a, .slice .no 5 []])))
    (fun _ => True) (fun _ => 0) () trivial (fun _ _ h => by rw [hr] at h; cases h) ?_ ?_
  · exact Drop.all hw hn ⟨⟨rfl, hl1 2⟩, ⟨rfl, hl1 3⟩, ⟨rfl, trivial⟩, trivial⟩
  intro _ _
  refine hgo_sound 60 ?_
  simp -implicitDefEqProofs (maxSteps := 1000000) only [simpS, ↓condJ_true, ↓condJ_false, ↓reduceIte, Nat.reduceEqDiff, Nat.reduceLT, Nat.reduceLeDiff, reduceCtorEq, Nat.reduceAdd, Nat.reduceSub, noneS, listS, implies_true, forall_const, ne_eq, d0]
  exact fpost_pure (σ0 := σ) (.inr rfl) (by rw [hnx]; exact Nat.le_refl _) hwf ((((Ext.refl _).new _).new _).sub hwf) rfl trivial trivial ⟨rfl, rfl⟩

theorem cis_calls0 (k : Int) (g t : ByteArray) (a : Int) (σ : St) : HCalls Tryz.prog 10 [.agg (encN (.mk k g t a [])), .agg (encN (.mk k g t a []))] σ (fun d σ' => d = .bool true ∧ σ' = σ) := by
  refine hcalls_body (fn := Tryz.f10) rfl c10 (by simp [h10]) (by simp [h10, Tryz.f10]) ?_
  intro M hP hr hnt hnx hwf hlt
  simp only [h10, argEnv]
  have e0 : encN (.mk k g t a []) = [.int .i64 k, .str g, .str t, .int .i64 a, .slice .no 5 []] := rfl
  refine hgo_sound 60 ?_
  simp -implicitDefEqProofs (maxSteps := 1000000) only [simpS, ↓condJ_true, ↓condJ_false, ↓reduceIte, Nat.reduceEqDiff, Nat.reduceLT, Nat.reduceLeDiff, reduceCtorEq, Nat.reduceAdd, Nat.reduceSub, noneS, listS, implies_true, forall_const, ne_eq, encN_length]
  refine hx_call (f := .fn 27) rfl (by rw [hP]; exact hcallD_func (doc0_calls k g t a _)) ?_
  rintro _ σ2 ⟨⟨z, rfl⟩, h⟩
  subst σ2
  refine hgo_sound 60 ?_
  simp -implicitDefEqProofs (maxSteps := 1000000) only [simpS, ↓condJ_true, ↓condJ_false, ↓reduceIte, Nat.reduceEqDiff, Nat.reduceLT, Nat.reduceLeDiff, reduceCtorEq, Nat.reduceAdd, Nat.reduceSub, noneS, listS, implies_true, forall_const, ne_eq, encN_length]
  refine hx_call (f := .fn 28) rfl (by rw [hP]; exact hcallD_func (same0_calls k g t a _)) ?_
  rintro _ σ2 ⟨rfl, h⟩
  subst σ2
  refine hgo_sound 60 ?_
  simp -implicitDefEqProofs (maxSteps := 1000000) only [simpS, ↓condJ_true, ↓condJ_false, ↓reduceIte, Nat.reduceEqDiff, Nat.reduceLT, Nat.reduceLeDiff, reduceCtorEq, Nat.reduceAdd, Nat.reduceSub, noneS, listS, implies_true, forall_const, ne_eq]
  exact fpost_pure (σ0 := σ) (.inr rfl) (by rw [hnx]; exact Nat.le_refl _) hwf (((((Ext.refl _).new _).new _).new _).sub hwf) rfl trivial trivial ⟨rfl, rfl⟩

theorem take_leaf (c : Cu) (w : Bool) : ∃ k g t a, (takeC c w).2 = .mk k g t a [] := by
  unfold takeC
  split
  · exact ⟨_, _, _, _, rfl⟩
  · exact ⟨_, _, _, _, rfl⟩

end Go.Hl
set_option linter.unusedSectionVars false
set_option linter.unusedVariables false
set_option linter.unusedSimpArgs false
set_option maxRecDepth 100000
namespace Go.Hl
open Go Go.Proofs Go.RowKit

structure Act8 where
  k : Int
  n : Int
  a : Int
  x : ByteArray
abbrev encA (t : Act8) : List D := [.int .i64 t.k, .int .i64 t.n, .int .i64 t.a, .str t.x]
def encAs (l : List Act8) : List (List D) := l.map encA
theorem encAs_length (l : List Act8) : (encAs l).length = l.length := by simp [encAs]
theorem encAs_lt (n : Nat) : ∀ l : List Act8, ltX n (encAs l)
  | [] => trivial
  | s :: l => ⟨⟨trivial, trivial, trivial, trivial, trivial⟩, encAs_lt n l⟩
theorem encAs_get (l : List Act8) (j : Nat) (h : j < l.length) : (encAs l).getD j [] = encA l[j] := by simp [encAs, List.getD, h]
theorem encAs_slt (n : Nat) (l : List Act8) : (D.slice .no 4 (encAs l)).lt n := ⟨trivial, encAs_lt n l⟩

set_option maxHeartbeats 4000000 in
theorem stands_calls8 (id : Nat) (c : Cu) (hc : c.ok) (hlk : c.lok) (t : Act8) (σ : St) (ho : σ.obj id = some (.box (encC c))) : HCalls Tryz.prog 19 [.ptr id 0, .agg (encR c), .agg (encA t)] σ (fun d σ' => d = .bool true ∧ σ' = σ) := by
  refine hcalls_body (fn := Tryz.f19) rfl c19 (by simp [h19]) (by simp [h19, Tryz.f19]) ?_
  intro M hP hr hnt hnx hwf hlt
  simp only [h19, argEnv]
  have hnt' : M.nt = 101 := hnt
  have hid := (hwf.obj _ _ ho).1
  have hn0 : ¬ id = σ.next := by omega
  have hn1 : ¬ id = σ.next + 1 := by omega
  refine hgo_sound 60 ?_
  simp -implicitDefEqProofs (maxSteps := 1000000) only [simpS, ↓condJ_true, ↓condJ_false, ↓reduceIte, Nat.reduceEqDiff, Nat.reduceLT, Nat.reduceLeDiff, reduceCtorEq, Nat.reduceAdd, Nat.reduceSub, noneS, listS, implies_true, forall_const, ne_eq]
  refine hx_call (f := .fn 23) rfl (by rw [hP]; exact hcallD_func (peek_calls id c hc t.a _ (by simp -implicitDefEqProofs (maxSteps := 1000000) only [simpS, ↓condJ_true, ↓condJ_false, ↓reduceIte, Nat.reduceEqDiff, Nat.reduceLT, Nat.reduceLeDiff, reduceCtorEq, Nat.reduceAdd, Nat.reduceSub, noneS, listS, implies_true, forall_const, ne_eq, hn0, hn1]; exact ho))) ?_
  rintro _ σ2 ⟨rfl, h⟩
  subst σ2
  refine hgo_sound 60 ?_
  simp -implicitDefEqProofs (maxSteps := 1000000) only [simpS, ↓condJ_true, ↓condJ_false, ↓reduceIte, Nat.reduceEqDiff, Nat.reduceLT, Nat.reduceLeDiff, reduceCtorEq, Nat.reduceAdd, Nat.reduceSub, noneS, listS, implies_true, forall_const, ne_eq]
  refine hx_call (f := .fn 25) rfl (by rw [hP]; exact hcallD_func (rpeek_calls c hc t.a _)) ?_
  rintro _ σ2 ⟨rfl, h⟩
  subst σ2
  refine hgo_sound 60 ?_
  simp -implicitDefEqProofs (maxSteps := 1000000) only [simpS, ↓condJ_true, ↓condJ_false, ↓reduceIte, Nat.reduceEqDiff, Nat.reduceLT, Nat.reduceLeDiff, reduceCtorEq, Nat.reduceAdd, Nat.reduceSub, noneS, listS, implies_true, forall_const, ne_eq]
  refine hx_call (f := .fn 33) rfl (by rw [hP]; exact hcallD_func (failed_calls id c _ (by simp -implicitDefEqProofs (maxSteps := 1000000) only [simpS, ↓condJ_true, ↓condJ_false, ↓reduceIte, Nat.reduceEqDiff, Nat.reduceLT, Nat.reduceLeDiff, reduceCtorEq, Nat.reduceAdd, Nat.reduceSub, noneS, listS, implies_true, forall_const, ne_eq, hn0, hn1]; exact ho))) ?_
  rintro _ σ2 ⟨rfl, h⟩
  subst σ2
  generalize hq : peekC c t.a = q
  have s1 : decide (q.2 = q.2) = true := decide_eq_true rfl
  have s2 : decide (endC c = endC c) = true := decide_eq_true rfl
  by_cases he : c.er = 0
  · have e1 : ((c.er : Int) != 0) = false := by rw [he]; rfl
    rw [if_pos he]
    refine hgo_sound 60 ?_
    simp -implicitDefEqProofs (maxSteps := 1000000) only [simpS, ↓condJ_true, ↓condJ_false, ↓reduceIte, Nat.reduceEqDiff, Nat.reduceLT, Nat.reduceLeDiff, reduceCtorEq, Nat.reduceAdd, Nat.reduceSub, noneS, listS, implies_true, forall_const, ne_eq, e1]
    refine hx_drawgo 1 ?_
    simp -implicitDefEqProofs (maxSteps := 100000000) only [drawS, listS, List.getElem?_cons_zero, List.getElem?_cons_succ, List.getElem?_nil, simpS, ↓condJ_true, ↓condJ_false, ↓reduceIte, Nat.reduceEqDiff, Nat.reduceLT, Nat.reduceLeDiff, reduceCtorEq, Nat.reduceAdd, Nat.reduceSub, noneS, listS, implies_true, forall_const, ne_eq, hnt', s1, s2, ho, hn0, hn1]
    refine hd_call (i := 14) (f := .fn 29) (by simp -implicitDefEqProofs (maxSteps := 100000000) only [drawS, listS, List.getElem?_cons_zero, List.getElem?_cons_succ, List.getElem?_nil, simpS, ↓condJ_true, ↓condJ_false, ↓reduceIte, Nat.reduceEqDiff, Nat.reduceLT, Nat.reduceLeDiff, reduceCtorEq, Nat.reduceAdd, Nat.reduceSub, noneS, listS, implies_true, forall_const, ne_eq, hnt', s1, s2, ho, hn0, hn1]) (by rfl) (by rfl) rfl (by rfl) (by rw [hP]; exact hcallD_func (cis_calls id c hc t.a t.x _ (by simp -implicitDefEqProofs (maxSteps := 1000000) only [simpS, ↓condJ_true, ↓condJ_false, ↓reduceIte, Nat.reduceEqDiff, Nat.reduceLT, Nat.reduceLeDiff, reduceCtorEq, Nat.reduceAdd, Nat.reduceSub, noneS, listS, implies_true, forall_const, ne_eq, hn0, hn1]; exact ho))) ?_
    rintro _ σ2 ⟨rfl, h⟩
    subst σ2
    refine hdgo_sound 1 ?_
    simp -implicitDefEqProofs (maxSteps := 3000000) only [drawS, listS, List.getElem?_cons_zero, List.getElem?_cons_succ, List.getElem?_nil, simpS, ↓condJ_true, ↓condJ_false, ↓reduceIte, Nat.reduceEqDiff, Nat.reduceLT, Nat.reduceLeDiff, reduceCtorEq, Nat.reduceAdd, Nat.reduceSub, noneS, listS, implies_true, forall_const, ne_eq, hnt', s1, s2, ho, hn0, hn1]
    refine hd_call (i := 20) (f := .fn 30) (by simp -implicitDefEqProofs (maxSteps := 100000000) only [drawS, listS, List.getElem?_cons_zero, List.getElem?_cons_succ, List.getElem?_nil, simpS, ↓condJ_true, ↓condJ_false, ↓reduceIte, Nat.reduceEqDiff, Nat.reduceLT, Nat.reduceLeDiff, reduceCtorEq, Nat.reduceAdd, Nat.reduceSub, noneS, listS, implies_true, forall_const, ne_eq, hnt', s1, s2, ho, hn0, hn1]) (by rfl) (by rfl) rfl (by rfl) (by rw [hP]; exact hcallD_func (ris_calls c hc t.a t.x _)) ?_
    rintro _ σ2 ⟨rfl, h⟩
    subst σ2
    refine hdgo_sound 1 ?_
    simp -implicitDefEqProofs (maxSteps := 3000000) only [drawS, listS, List.getElem?_cons_zero, List.getElem?_cons_succ, List.getElem?_nil, simpS, ↓condJ_true, ↓condJ_false, ↓reduceIte, Nat.reduceEqDiff, Nat.reduceLT, Nat.reduceLeDiff, reduceCtorEq, Nat.reduceAdd, Nat.reduceSub, noneS, listS, implies_true, forall_const, ne_eq, hnt', s1, s2, ho, hn0, hn1]
    refine hd_call (i := 25) (f := .fn 31) (by simp -implicitDefEqProofs (maxSteps := 100000000) only [drawS, listS, List.getElem?_cons_zero, List.getElem?_cons_succ, List.getElem?_nil, simpS, ↓condJ_true, ↓condJ_false, ↓reduceIte, Nat.reduceEqDiff, Nat.reduceLT, Nat.reduceLeDiff, reduceCtorEq, Nat.reduceAdd, Nat.reduceSub, noneS, listS, implies_true, forall_const, ne_eq, hnt', s1, s2, ho, hn0, hn1]) (by rfl) (by rfl) rfl (by rfl) (by rw [hP]; exact hcallD_func (at_calls id c hc _ (by simp -implicitDefEqProofs (maxSteps := 1000000) only [simpS, ↓condJ_true, ↓condJ_false, ↓reduceIte, Nat.reduceEqDiff, Nat.reduceLT, Nat.reduceLeDiff, reduceCtorEq, Nat.reduceAdd, Nat.reduceSub, noneS, listS, implies_true, forall_const, ne_eq, hn0, hn1]; exact ho))) ?_
    rintro _ σ2 ⟨rfl, h⟩
    subst σ2
    refine hdgo_sound 1 ?_
    simp -implicitDefEqProofs (maxSteps := 3000000) only [drawS, listS, List.getElem?_cons_zero, List.getElem?_cons_succ, List.getElem?_nil, simpS, ↓condJ_true, ↓condJ_false, ↓reduceIte, Nat.reduceEqDiff, Nat.reduceLT, Nat.reduceLeDiff, reduceCtorEq, Nat.reduceAdd, Nat.reduceSub, noneS, listS, implies_true, forall_const, ne_eq, hnt', s1, s2, ho, hn0, hn1]
    refine hd_call (i := 27) (f := .fn 32) (by simp -implicitDefEqProofs (maxSteps := 100000000) only [drawS, listS, List.getElem?_cons_zero, List.getElem?_cons_succ, List.getElem?_nil, simpS, ↓condJ_true, ↓condJ_false, ↓reduceIte, Nat.reduceEqDiff, Nat.reduceLT, Nat.reduceLeDiff, reduceCtorEq, Nat.reduceAdd, Nat.reduceSub, noneS, listS, implies_true, forall_const, ne_eq, hnt', s1, s2, ho, hn0, hn1]) (by rfl) (by rfl) rfl (by rfl) (by rw [hP]; exact hcallD_func (rat_calls c hc _)) ?_
    rintro _ σ2 ⟨rfl, h⟩
    subst σ2
    refine hdgo_sound 1 ?_
    simp -implicitDefEqProofs (maxSteps := 3000000) only [drawS, listS, List.getElem?_cons_zero, List.getElem?_cons_succ, List.getElem?_nil, simpS, ↓condJ_true, ↓condJ_false, ↓reduceIte, Nat.reduceEqDiff, Nat.reduceLT, Nat.reduceLeDiff, reduceCtorEq, Nat.reduceAdd, Nat.reduceSub, noneS, listS, implies_true, forall_const, ne_eq, hnt', s1, s2, ho, hn0, hn1]
    refine hd_call (i := 32) (f := .fn 34) (by simp -implicitDefEqProofs (maxSteps := 100000000) only [drawS, listS, List.getElem?_cons_zero, List.getElem?_cons_succ, List.getElem?_nil, simpS, ↓condJ_true, ↓condJ_false, ↓reduceIte, Nat.reduceEqDiff, Nat.reduceLT, Nat.reduceLeDiff, reduceCtorEq, Nat.reduceAdd, Nat.reduceSub, noneS, listS, implies_true, forall_const, ne_eq, hnt', s1, s2, ho, hn0, hn1]) (by rfl) (by rfl) rfl (by rfl) (by rw [hP]; exact hcallD_func (deep_calls id c _ (by simp -implicitDefEqProofs (maxSteps := 1000000) only [simpS, ↓condJ_true, ↓condJ_false, ↓reduceIte, Nat.reduceEqDiff, Nat.reduceLT, Nat.reduceLeDiff, reduceCtorEq, Nat.reduceAdd, Nat.reduceSub, noneS, listS, implies_true, forall_const, ne_eq, hn0, hn1]; exact ho))) ?_
    rintro _ σ2 ⟨rfl, h⟩
    subst σ2
    refine hdgo_sound 1 ?_
    simp -implicitDefEqProofs (maxSteps := 3000000) only [drawS, listS, List.getElem?_cons_zero, List.getElem?_cons_succ, List.getElem?_nil, simpS, ↓condJ_true, ↓condJ_false, ↓reduceIte, Nat.reduceEqDiff, Nat.reduceLT, Nat.reduceLeDiff, reduceCtorEq, Nat.reduceAdd, Nat.reduceSub, noneS, listS, implies_true, forall_const, ne_eq, hnt', s1, s2, ho, hn0, hn1]
    refine hd_call (i := 39) (f := .fn 20) (by simp -implicitDefEqProofs (maxSteps := 100000000) only [drawS, listS, List.getElem?_cons_zero, List.getElem?_cons_succ, List.getElem?_nil, simpS, ↓condJ_true, ↓condJ_false, ↓reduceIte, Nat.reduceEqDiff, Nat.reduceLT, Nat.reduceLeDiff, reduceCtorEq, Nat.reduceAdd, Nat.reduceSub, noneS, listS, implies_true, forall_const, ne_eq, hnt', s1, s2, ho, hn0, hn1]) (by rfl) (by rfl) rfl (by rfl) (by rw [hP]; exact hcallD_func (left_calls id c hc _ (by simp -implicitDefEqProofs (maxSteps := 1000000) only [simpS, ↓condJ_true, ↓condJ_false, ↓reduceIte, Nat.reduceEqDiff, Nat.reduceLT, Nat.reduceLeDiff, reduceCtorEq, Nat.reduceAdd, Nat.reduceSub, noneS, listS, implies_true, forall_const, ne_eq, hn0, hn1]; exact ho))) ?_
    rintro _ σ2 ⟨rfl, h⟩
    subst σ2
    refine hdgo_sound 1 ?_
    simp -implicitDefEqProofs (maxSteps := 3000000) only [drawS, listS, List.getElem?_cons_zero, List.getElem?_cons_succ, List.getElem?_nil, simpS, ↓condJ_true, ↓condJ_false, ↓reduceIte, Nat.reduceEqDiff, Nat.reduceLT, Nat.reduceLeDiff, reduceCtorEq, Nat.reduceAdd, Nat.reduceSub, noneS, listS, implies_true, forall_const, ne_eq, hnt', s1, s2, ho, hn0, hn1]
    refine hd_call (i := 41) (f := .fn 35) (by simp -implicitDefEqProofs (maxSteps := 100000000) only [drawS, listS, List.getElem?_cons_zero, List.getElem?_cons_succ, List.getElem?_nil, simpS, ↓condJ_true, ↓condJ_false, ↓reduceIte, Nat.reduceEqDiff, Nat.reduceLT, Nat.reduceLeDiff, reduceCtorEq, Nat.reduceAdd, Nat.reduceSub, noneS, listS, implies_true, forall_const, ne_eq, hnt', s1, s2, ho, hn0, hn1]) (by rfl) (by rfl) rfl (by rfl) (by rw [hP]; exact hcallD_func (rleft_calls c hc _)) ?_
    rintro _ σ2 ⟨rfl, h⟩
    subst σ2
    refine hdgo_sound 1 ?_
    simp -implicitDefEqProofs (maxSteps := 3000000) only [drawS, listS, List.getElem?_cons_zero, List.getElem?_cons_succ, List.getElem?_nil, simpS, ↓condJ_true, ↓condJ_false, ↓reduceIte, Nat.reduceEqDiff, Nat.reduceLT, Nat.reduceLeDiff, reduceCtorEq, Nat.reduceAdd, Nat.reduceSub, noneS, listS, implies_true, forall_const, ne_eq, hnt', s1, s2, ho, hn0, hn1]
    refine hd_call (i := 46) (f := .fn 36) (by simp -implicitDefEqProofs (maxSteps := 100000000) only [drawS, listS, List.getElem?_cons_zero, List.getElem?_cons_succ, List.getElem?_nil, simpS, ↓condJ_true, ↓condJ_false, ↓reduceIte, Nat.reduceEqDiff, Nat.reduceLT, Nat.reduceLeDiff, reduceCtorEq, Nat.reduceAdd, Nat.reduceSub, noneS, listS, implies_true, forall_const, ne_eq, hnt', s1, s2, ho, hn0, hn1]) (by rfl) (by rfl) rfl (by rfl) (by rw [hP]; exact hcallD_func (end_calls id c hc _ (by simp -implicitDefEqProofs (maxSteps := 1000000) only [simpS, ↓condJ_true, ↓condJ_false, ↓reduceIte, Nat.reduceEqDiff, Nat.reduceLT, Nat.reduceLeDiff, reduceCtorEq, Nat.reduceAdd, Nat.reduceSub, noneS, listS, implies_true, forall_const, ne_eq, hn0, hn1]; exact ho))) ?_
    rintro _ σ2 ⟨rfl, h⟩
    subst σ2
    refine hdgo_sound 1 ?_
    simp -implicitDefEqProofs (maxSteps := 3000000) only [drawS, listS, List.getElem?_cons_zero, List.getElem?_cons_succ, List.getElem?_nil, simpS, ↓condJ_true, ↓condJ_false, ↓reduceIte, Nat.reduceEqDiff, Nat.reduceLT, Nat.reduceLeDiff, reduceCtorEq, Nat.reduceAdd, Nat.reduceSub, noneS, listS, implies_true, forall_const, ne_eq, hnt', s1, s2, ho, hn0, hn1]
    refine hd_call (i := 48) (f := .fn 37) (by simp -implicitDefEqProofs (maxSteps := 100000000) only [drawS, listS, List.getElem?_cons_zero, List.getElem?_cons_succ, List.getElem?_nil, simpS, ↓condJ_true, ↓condJ_false, ↓reduceIte, Nat.reduceEqDiff, Nat.reduceLT, Nat.reduceLeDiff, reduceCtorEq, Nat.reduceAdd, Nat.reduceSub, noneS, listS, implies_true, forall_const, ne_eq, hnt', s1, s2, ho, hn0, hn1]) (by rfl) (by rfl) rfl (by rfl) (by rw [hP]; exact hcallD_func (rend_calls c hc hlk _)) ?_
    rintro _ σ2 ⟨rfl, h⟩
    subst σ2
    refine hdgo_sound 1 ?_
    simp -implicitDefEqProofs (maxSteps := 3000000) only [drawS, listS, List.getElem?_cons_zero, List.getElem?_cons_succ, List.getElem?_nil, simpS, ↓condJ_true, ↓condJ_false, ↓reduceIte, Nat.reduceEqDiff, Nat.reduceLT, Nat.reduceLeDiff, reduceCtorEq, Nat.reduceAdd, Nat.reduceSub, noneS, listS, implies_true, forall_const, ne_eq, hnt', s1, s2, ho, hn0, hn1]
    refine hd_call (i := 58) (f := .fn 7) (by simp -implicitDefEqProofs (maxSteps := 100000000) only [drawS, listS, List.getElem?_cons_zero, List.getElem?_cons_succ, List.getElem?_nil, simpS, ↓condJ_true, ↓condJ_false, ↓reduceIte, Nat.reduceEqDiff, Nat.reduceLT, Nat.reduceLeDiff, reduceCtorEq, Nat.reduceAdd, Nat.reduceSub, noneS, listS, implies_true, forall_const, ne_eq, hnt', s1, s2, ho, hn0, hn1]) (by rfl) (by rfl) rfl (by rfl) (by rw [hP]; exact hcallD_func (num_calls (c.er : Int) _)) ?_
    rintro _ σ2 ⟨rfl, h⟩
    subst σ2
    refine hdgo_sound 1 ?_
    simp -implicitDefEqProofs (maxSteps := 3000000) only [drawS, listS, List.getElem?_cons_zero, List.getElem?_cons_succ, List.getElem?_nil, simpS, ↓condJ_true, ↓condJ_false, ↓reduceIte, Nat.reduceEqDiff, Nat.reduceLT, Nat.reduceLeDiff, reduceCtorEq, Nat.reduceAdd, Nat.reduceSub, noneS, listS, implies_true, forall_const, ne_eq, hnt', s1, s2, ho, hn0, hn1]
    refine hgo_sound 60 ?_
    simp -implicitDefEqProofs (maxSteps := 1000000) only [simpS, ↓condJ_true, ↓condJ_false, ↓reduceIte, Nat.reduceEqDiff, Nat.reduceLT, Nat.reduceLeDiff, reduceCtorEq, Nat.reduceAdd, Nat.reduceSub, noneS, listS, implies_true, forall_const, ne_eq]
    exact fpost_pure (σ0 := σ) (.inr rfl) (by rw [hnx]; exact Nat.le_refl _) hwf ((((Ext.refl _).new _).new _).sub hwf) rfl trivial trivial ⟨rfl, rfl⟩
  · have e1 : ((c.er : Int) != 0) = true := by simp; omega
    rw [if_neg he]
    refine hgo_sound 60 ?_
    simp -implicitDefEqProofs (maxSteps := 1000000) only [simpS, ↓condJ_true, ↓condJ_false, ↓reduceIte, Nat.reduceEqDiff, Nat.reduceLT, Nat.reduceLeDiff, reduceCtorEq, Nat.reduceAdd, Nat.reduceSub, noneS, listS, implies_true, forall_const, ne_eq, e1]
    refine hx_drawgo 1 ?_
    simp -implicitDefEqProofs (maxSteps := 100000000) only [drawS, listS, List.getElem?_cons_zero, List.getElem?_cons_succ, List.getElem?_nil, simpS, ↓condJ_true, ↓condJ_false, ↓reduceIte, Nat.reduceEqDiff, Nat.reduceLT, Nat.reduceLeDiff, reduceCtorEq, Nat.reduceAdd, Nat.reduceSub, noneS, listS, implies_true, forall_const, ne_eq, hnt', s1, s2, ho, hn0, hn1]
    refine hd_call (i := 14) (f := .fn 29) (by simp -implicitDefEqProofs (maxSteps := 100000000) only [drawS, listS, List.getElem?_cons_zero, List.getElem?_cons_succ, List.getElem?_nil, simpS, ↓condJ_true, ↓condJ_false, ↓reduceIte, Nat.reduceEqDiff, Nat.reduceLT, Nat.reduceLeDiff, reduceCtorEq, Nat.reduceAdd, Nat.reduceSub, noneS, listS, implies_true, forall_const, ne_eq, hnt', s1, s2, ho, hn0, hn1]) (by rfl) (by rfl) rfl (by rfl) (by rw [hP]; exact hcallD_func (cis_calls id c hc t.a t.x _ (by simp -implicitDefEqProofs (maxSteps := 1000000) only [simpS, ↓condJ_true, ↓condJ_false, ↓reduceIte, Nat.reduceEqDiff, Nat.reduceLT, Nat.reduceLeDiff, reduceCtorEq, Nat.reduceAdd, Nat.reduceSub, noneS, listS, implies_true, forall_const, ne_eq, hn0, hn1]; exact ho))) ?_
    rintro _ σ2 ⟨rfl, h⟩
    subst σ2
    refine hdgo_sound 1 ?_
    simp -implicitDefEqProofs (maxSteps := 3000000) only [drawS, listS, List.getElem?_cons_zero, List.getElem?_cons_succ, List.getElem?_nil, simpS, ↓condJ_true, ↓condJ_false, ↓reduceIte, Nat.reduceEqDiff, Nat.reduceLT, Nat.reduceLeDiff, reduceCtorEq, Nat.reduceAdd, Nat.reduceSub, noneS, listS, implies_true, forall_const, ne_eq, hnt', s1, s2, ho, hn0, hn1]
    refine hd_call (i := 20) (f := .fn 30) (by simp -implicitDefEqProofs (maxSteps := 100000000) only [drawS, listS, List.getElem?_cons_zero, List.getElem?_cons_succ, List.getElem?_nil, simpS, ↓condJ_true, ↓condJ_false, ↓reduceIte, Nat.reduceEqDiff, Nat.reduceLT, Nat.reduceLeDiff, reduceCtorEq, Nat.reduceAdd, Nat.reduceSub, noneS, listS, implies_true, forall_const, ne_eq, hnt', s1, s2, ho, hn0, hn1]) (by rfl) (by rfl) rfl (by rfl) (by rw [hP]; exact hcallD_func (ris_calls c hc t.a t.x _)) ?_
    rintro _ σ2 ⟨rfl, h⟩
    subst σ2
    refine hdgo_sound 1 ?_
    simp -implicitDefEqProofs (maxSteps := 3000000) only [drawS, listS, List.getElem?_cons_zero, List.getElem?_cons_succ, List.getElem?_nil, simpS, ↓condJ_true, ↓condJ_false, ↓reduceIte, Nat.reduceEqDiff, Nat.reduceLT, Nat.reduceLeDiff, reduceCtorEq, Nat.reduceAdd, Nat.reduceSub, noneS, listS, implies_true, forall_const, ne_eq, hnt', s1, s2, ho, hn0, hn1]
    refine hd_call (i := 25) (f := .fn 31) (by simp -implicitDefEqProofs (maxSteps := 100000000) only [drawS, listS, List.getElem?_cons_zero, List.getElem?_cons_succ, List.getElem?_nil, simpS, ↓condJ_true, ↓condJ_false, ↓reduceIte, Nat.reduceEqDiff, Nat.reduceLT, Nat.reduceLeDiff, reduceCtorEq, Nat.reduceAdd, Nat.reduceSub, noneS, listS, implies_true, forall_const, ne_eq, hnt', s1, s2, ho, hn0, hn1]) (by rfl) (by rfl) rfl (by rfl) (by rw [hP]; exact hcallD_func (at_calls id c hc _ (by simp -implicitDefEqProofs (maxSteps := 1000000) only [simpS, ↓condJ_true, ↓condJ_false, ↓reduceIte, Nat.reduceEqDiff, Nat.reduceLT, Nat.reduceLeDiff, reduceCtorEq, Nat.reduceAdd, Nat.reduceSub, noneS, listS, implies_true, forall_const, ne_eq, hn0, hn1]; exact ho))) ?_
    rintro _ σ2 ⟨rfl, h⟩
    subst σ2
    refine hdgo_sound 1 ?_
    simp -implicitDefEqProofs (maxSteps := 3000000) only [drawS, listS, List.getElem?_cons_zero, List.getElem?_cons_succ, List.getElem?_nil, simpS, ↓condJ_true, ↓condJ_false, ↓reduceIte, Nat.reduceEqDiff, Nat.reduceLT, Nat.reduceLeDiff, reduceCtorEq, Nat.reduceAdd, Nat.reduceSub, noneS, listS, implies_true, forall_const, ne_eq, hnt', s1, s2, ho, hn0, hn1]
    refine hd_call (i := 27) (f := .fn 32) (by simp -implicitDefEqProofs (maxSteps := 100000000) only [drawS, listS, List.getElem?_cons_zero, List.getElem?_cons_succ, List.getElem?_nil, simpS, ↓condJ_true, ↓condJ_false, ↓reduceIte, Nat.reduceEqDiff, Nat.reduceLT, Nat.reduceLeDiff, reduceCtorEq, Nat.reduceAdd, Nat.reduceSub, noneS, listS, implies_true, forall_const, ne_eq, hnt', s1, s2, ho, hn0, hn1]) (by rfl) (by rfl) rfl (by rfl) (by rw [hP]; exact hcallD_func (rat_calls c hc _)) ?_
    rintro _ σ2 ⟨rfl, h⟩
    subst σ2
    refine hdgo_sound 1 ?_
    simp -implicitDefEqProofs (maxSteps := 3000000) only [drawS, listS, List.getElem?_cons_zero, List.getElem?_cons_succ, List.getElem?_nil, simpS, ↓condJ_true, ↓condJ_false, ↓reduceIte, Nat.reduceEqDiff, Nat.reduceLT, Nat.reduceLeDiff, reduceCtorEq, Nat.reduceAdd, Nat.reduceSub, noneS, listS, implies_true, forall_const, ne_eq, hnt', s1, s2, ho, hn0, hn1]
    refine hd_call (i := 32) (f := .fn 34) (by simp -implicitDefEqProofs (maxSteps := 100000000) only [drawS, listS, List.getElem?_cons_zero, List.getElem?_cons_succ, List.getElem?_nil, simpS, ↓condJ_true, ↓condJ_false, ↓reduceIte, Nat.reduceEqDiff, Nat.reduceLT, Nat.reduceLeDiff, reduceCtorEq, Nat.reduceAdd, Nat.reduceSub, noneS, listS, implies_true, forall_const, ne_eq, hnt', s1, s2, ho, hn0, hn1]) (by rfl) (by rfl) rfl (by rfl) (by rw [hP]; exact hcallD_func (deep_calls id c _ (by simp -implicitDefEqProofs (maxSteps := 1000000) only [simpS, ↓condJ_true, ↓condJ_false, ↓reduceIte, Nat.reduceEqDiff, Nat.reduceLT, Nat.reduceLeDiff, reduceCtorEq, Nat.reduceAdd, Nat.reduceSub, noneS, listS, implies_true, forall_const, ne_eq, hn0, hn1]; exact ho))) ?_
    rintro _ σ2 ⟨rfl, h⟩
    subst σ2
    refine hdgo_sound 1 ?_
    simp -implicitDefEqProofs (maxSteps := 3000000) only [drawS, listS, List.getElem?_cons_zero, List.getElem?_cons_succ, List.getElem?_nil, simpS, ↓condJ_true, ↓condJ_false, ↓reduceIte, Nat.reduceEqDiff, Nat.reduceLT, Nat.reduceLeDiff, reduceCtorEq, Nat.reduceAdd, Nat.reduceSub, noneS, listS, implies_true, forall_const, ne_eq, hnt', s1, s2, ho, hn0, hn1]
    refine hd_call (i := 39) (f := .fn 20) (by simp -implicitDefEqProofs (maxSteps := 100000000) only [drawS, listS, List.getElem?_cons_zero, List.getElem?_cons_succ, List.getElem?_nil, simpS, ↓condJ_true, ↓condJ_false, ↓reduceIte, Nat.reduceEqDiff, Nat.reduceLT, Nat.reduceLeDiff, reduceCtorEq, Nat.reduceAdd, Nat.reduceSub, noneS, listS, implies_true, forall_const, ne_eq, hnt', s1, s2, ho, hn0, hn1]) (by rfl) (by rfl) rfl (by rfl) (by rw [hP]; exact hcallD_func (left_calls id c hc _ (by simp -implicitDefEqProofs (maxSteps := 1000000) only [simpS, ↓condJ_true, ↓condJ_false, ↓reduceIte, Nat.reduceEqDiff, Nat.reduceLT, Nat.reduceLeDiff, reduceCtorEq, Nat.reduceAdd, Nat.reduceSub, noneS, listS, implies_true, forall_const, ne_eq, hn0, hn1]; exact ho))) ?_
    rintro _ σ2 ⟨rfl, h⟩
    subst σ2
    refine hdgo_sound 1 ?_
    simp -implicitDefEqProofs (maxSteps := 3000000) only [drawS, listS, List.getElem?_cons_zero, List.getElem?_cons_succ, List.getElem?_nil, simpS, ↓condJ_true, ↓condJ_false, ↓reduceIte, Nat.reduceEqDiff, Nat.reduceLT, Nat.reduceLeDiff, reduceCtorEq, Nat.reduceAdd, Nat.reduceSub, noneS, listS, implies_true, forall_const, ne_eq, hnt', s1, s2, ho, hn0, hn1]
    refine hd_call (i := 41) (f := .fn 35) (by simp -implicitDefEqProofs (maxSteps := 100000000) only [drawS, listS, List.getElem?_cons_zero, List.getElem?_cons_succ, List.getElem?_nil, simpS, ↓condJ_true, ↓condJ_false, ↓reduceIte, Nat.reduceEqDiff, Nat.reduceLT, Nat.reduceLeDiff, reduceCtorEq, Nat.reduceAdd, Nat.reduceSub, noneS, listS, implies_true, forall_const, ne_eq, hnt', s1, s2, ho, hn0, hn1]) (by rfl) (by rfl) rfl (by rfl) (by rw [hP]; exact hcallD_func (rleft_calls c hc _)) ?_
    rintro _ σ2 ⟨rfl, h⟩
    subst σ2
    refine hdgo_sound 1 ?_
    simp -implicitDefEqProofs (maxSteps := 3000000) only [drawS, listS, List.getElem?_cons_zero, List.getElem?_cons_succ, List.getElem?_nil, simpS, ↓condJ_true, ↓condJ_false, ↓reduceIte, Nat.reduceEqDiff, Nat.reduceLT, Nat.reduceLeDiff, reduceCtorEq, Nat.reduceAdd, Nat.reduceSub, noneS, listS, implies_true, forall_const, ne_eq, hnt', s1, s2, ho, hn0, hn1]
    refine hd_call (i := 46) (f := .fn 36) (by simp -implicitDefEqProofs (maxSteps := 100000000) only [drawS, listS, List.getElem?_cons_zero, List.getElem?_cons_succ, List.getElem?_nil, simpS, ↓condJ_true, ↓condJ_false, ↓reduceIte, Nat.reduceEqDiff, Nat.reduceLT, Nat.reduceLeDiff, reduceCtorEq, Nat.reduceAdd, Nat.reduceSub, noneS, listS, implies_true, forall_const, ne_eq, hnt', s1, s2, ho, hn0, hn1]) (by rfl) (by rfl) rfl (by rfl) (by rw [hP]; exact hcallD_func (end_calls id c hc _ (by simp -implicitDefEqProofs (maxSteps := 1000000) only [simpS, ↓condJ_true, ↓condJ_false, ↓reduceIte, Nat.reduceEqDiff, Nat.reduceLT, Nat.reduceLeDiff, reduceCtorEq, Nat.reduceAdd, Nat.reduceSub, noneS, listS, implies_true, forall_const, ne_eq, hn0, hn1]; exact ho))) ?_
    rintro _ σ2 ⟨rfl, h⟩
    subst σ2
    refine hdgo_sound 1 ?_
    simp -implicitDefEqProofs (maxSteps := 3000000) only [drawS, listS, List.getElem?_cons_zero, List.getElem?_cons_succ, List.getElem?_nil, simpS, ↓condJ_true, ↓condJ_false, ↓reduceIte, Nat.reduceEqDiff, Nat.reduceLT, Nat.reduceLeDiff, reduceCtorEq, Nat.reduceAdd, Nat.reduceSub, noneS, listS, implies_true, forall_const, ne_eq, hnt', s1, s2, ho, hn0, hn1]
    refine hd_call (i := 48) (f := .fn 37) (by simp -implicitDefEqProofs (maxSteps := 100000000) only [drawS, listS, List.getElem?_cons_zero, List.getElem?_cons_succ, List.getElem?_nil, simpS, ↓condJ_true, ↓condJ_false, ↓reduceIte, Nat.reduceEqDiff, Nat.reduceLT, Nat.reduceLeDiff, reduceCtorEq, Nat.reduceAdd, Nat.reduceSub, noneS, listS, implies_true, forall_const, ne_eq, hnt', s1, s2, ho, hn0, hn1]) (by rfl) (by rfl) rfl (by rfl) (by rw [hP]; exact hcallD_func (rend_calls c hc hlk _)) ?_
    rintro _ σ2 ⟨rfl, h⟩
    subst σ2
    refine hdgo_sound 1 ?_
    simp -implicitDefEqProofs (maxSteps := 3000000) only [drawS, listS, List.getElem?_cons_zero, List.getElem?_cons_succ, List.getElem?_nil, simpS, ↓condJ_true, ↓condJ_false, ↓reduceIte, Nat.reduceEqDiff, Nat.reduceLT, Nat.reduceLeDiff, reduceCtorEq, Nat.reduceAdd, Nat.reduceSub, noneS, listS, implies_true, forall_const, ne_eq, hnt', s1, s2, ho, hn0, hn1]
    refine hd_call (i := 58) (f := .fn 7) (by simp -implicitDefEqProofs (maxSteps := 100000000) only [drawS, listS, List.getElem?_cons_zero, List.getElem?_cons_succ, List.getElem?_nil, simpS, ↓condJ_true, ↓condJ_false, ↓reduceIte, Nat.reduceEqDiff, Nat.reduceLT, Nat.reduceLeDiff, reduceCtorEq, Nat.reduceAdd, Nat.reduceSub, noneS, listS, implies_true, forall_const, ne_eq, hnt', s1, s2, ho, hn0, hn1]) (by rfl) (by rfl) rfl (by rfl) (by rw [hP]; exact hcallD_func (num_calls (c.er : Int) _)) ?_
    rintro _ σ2 ⟨rfl, h⟩
    subst σ2
    refine hdgo_sound 1 ?_
    simp -implicitDefEqProofs (maxSteps := 3000000) only [drawS, listS, List.getElem?_cons_zero, List.getElem?_cons_succ, List.getElem?_nil, simpS, ↓condJ_true, ↓condJ_false, ↓reduceIte, Nat.reduceEqDiff, Nat.reduceLT, Nat.reduceLeDiff, reduceCtorEq, Nat.reduceAdd, Nat.reduceSub, noneS, listS, implies_true, forall_const, ne_eq, hnt', s1, s2, ho, hn0, hn1]
    refine hgo_sound 60 ?_
    simp -implicitDefEqProofs (maxSteps := 1000000) only [simpS, ↓condJ_true, ↓condJ_false, ↓reduceIte, Nat.reduceEqDiff, Nat.reduceLT, Nat.reduceLeDiff, reduceCtorEq, Nat.reduceAdd, Nat.reduceSub, noneS, listS, implies_true, forall_const, ne_eq]
    exact fpost_pure (σ0 := σ) (.inr rfl) (by rw [hnx]; exact Nat.le_refl _) hwf ((((Ext.refl _).new _).new _).sub hwf) rfl trivial trivial ⟨rfl, rfl⟩

end Go.Hl
set_option linter.unusedSectionVars false
set_option linter.unusedVariables false
set_option linter.unusedSimpArgs false
set_option maxRecDepth 100000
namespace Go.Hl
open Go Go.Proofs Go.RowKit

structure PlS where
  i : Nat
  c : Cu

def plS (σ : St) (c : Cu) : St := (σ.new (.box (encC c))).new (.box (encR c))
theorem plS_wf {σ : St} (hwf : σ.wf) (c : Cu) : (plS σ c).wf := (hwf.box (encC_lt c _)).box (encR_lt c _)

set_option maxHeartbeats 8000000 in
theorem cursorPlays_calls (s : ByteArray) (l : List Act8) (σ : St) (hg : GM σ) : HCalls Tryz.prog 3 [.str s, .slice .no 4 (encAs l)] σ (fun d σ' => d = .bool true ∧ σ' = σ) := by
  refine hcalls_body (fn := Tryz.f3) rfl c3 (by simp [h3]) (by simp [h3, Tryz.f3]) ?_
  intro M hP hr hnt hnx hwf hlt
  simp only [h3, argEnv]
  have hnt' : M.nt = 146 := hnt
  refine hgo_sound 60 ?_
  simp -implicitDefEqProofs (maxSteps := 1000000) only [simpS, ↓condJ_true, ↓condJ_false, ↓reduceIte, Nat.reduceEqDiff, Nat.reduceLT, Nat.reduceLeDiff, reduceCtorEq, Nat.reduceAdd, Nat.reduceSub, noneS, listS, implies_true, forall_const, ne_eq]
  refine hx_call (f := .fn 4) rfl (by rw [hP]; exact hcallD_func (calive_calls _ hg)) ?_
  rintro _ σ2 ⟨rfl, h⟩
  subst σ2
  by_cases h5 : s.size ≤ 5000
  rotate_left
  · have d5 : decide ((s.size : Int) > 5000) = true := decide_eq_true (by omega)
    refine hgo_sound 60 ?_
    simp -implicitDefEqProofs (maxSteps := 1000000) only [simpS, ↓condJ_true, ↓condJ_false, ↓reduceIte, Nat.reduceEqDiff, Nat.reduceLT, Nat.reduceLeDiff, reduceCtorEq, Nat.reduceAdd, Nat.reduceSub, noneS, listS, implies_true, forall_const, ne_eq, d5]
    exact fpost_pure (σ0 := σ) (.inr rfl) (by rw [hnx]; exact Nat.le_refl _) hwf (by first | exact Sub.refl σ | exact (((Ext.refl _).new _).sub hwf)) rfl trivial (by repeat' (first | trivial | apply And.intro)) ⟨rfl, rfl⟩
  have d5 : decide ((s.size : Int) > 5000) = false := decide_eq_false (by omega)
  by_cases hl : l.length ≤ 300
  rotate_left
  · have d6 : decide ((l.length : Int) > 300) = true := decide_eq_true (by omega)
    refine hgo_sound 60 ?_
    simp -implicitDefEqProofs (maxSteps := 1000000) only [simpS, ↓condJ_true, ↓condJ_false, ↓reduceIte, Nat.reduceEqDiff, Nat.reduceLT, Nat.reduceLeDiff, reduceCtorEq, Nat.reduceAdd, Nat.reduceSub, noneS, listS, implies_true, forall_const, ne_eq, d5, d6, encAs_length]
    exact fpost_pure (σ0 := σ) (.inr rfl) (by rw [hnx]; exact Nat.le_refl _) hwf (by first | exact Sub.refl σ | exact (((Ext.refl _).new _).sub hwf)) rfl trivial (by repeat' (first | trivial | apply And.intro)) ⟨rfl, rfl⟩
  have d6 : decide ((l.length : Int) > 300) = false := decide_eq_false (by omega)
  refine hgo_sound 60 ?_
  simp -implicitDefEqProofs (maxSteps := 1000000) only [simpS, ↓condJ_true, ↓condJ_false, ↓reduceIte, Nat.reduceEqDiff, Nat.reduceLT, Nat.reduceLeDiff, reduceCtorEq, Nat.reduceAdd, Nat.reduceSub, noneS, listS, implies_true, forall_const, ne_eq, d5, d6, encAs_length]
  have n22 : (((2 : Nat) : Int) != 2) = false := rfl
  have n44 : (((4 : Nat) : Int) != 4) = false := rfl
  have n20 : ((2 : Int) != 0) = true := rfl
  have n40 : ((4 : Int) != 0) = true := rfl
  have n00 : ((0 : Int) != 0) = false := rfl
  have q40 : ((4000 : Int) != 4000) = false := rfl
  by_cases h4 : s.size ≤ 4000
  rotate_left
  · refine hx_call (f := .fn 5) rfl (by rw [hP]; exact hcallD_func (new_large s h4 _)) ?_
    rintro _ σ2 ⟨rfl, h⟩
    subst σ2
    refine hgo_sound 60 ?_
    simp -implicitDefEqProofs (maxSteps := 1000000) only [simpS, ↓condJ_true, ↓condJ_false, ↓reduceIte, Nat.reduceEqDiff, Nat.reduceLT, Nat.reduceLeDiff, reduceCtorEq, Nat.reduceAdd, Nat.reduceSub, noneS, listS, implies_true, forall_const, ne_eq]
    refine hx_call (f := .fn 6) rfl (by rw [hP]; exact hcallD_func (rnew_large s h4 _)) ?_
    rintro _ σ2 ⟨rfl, h⟩
    subst σ2
    refine hgo_sound 60 ?_
    simp -implicitDefEqProofs (maxSteps := 1000000) only [simpS, ↓condJ_true, ↓condJ_false, ↓reduceIte, Nat.reduceEqDiff, Nat.reduceLT, Nat.reduceLeDiff, reduceCtorEq, Nat.reduceAdd, Nat.reduceSub, noneS, listS, implies_true, forall_const, ne_eq]
    refine hx_call (f := .fn 7) rfl (by rw [hP]; exact hcallD_func (num_calls ((4 : Nat) : Int) _)) ?_
    rintro _ σ2 ⟨rfl, h⟩
    subst σ2
    refine hgo_sound 60 ?_
    simp -implicitDefEqProofs (maxSteps := 1000000) only [simpS, ↓condJ_true, ↓condJ_false, ↓reduceIte, Nat.reduceEqDiff, Nat.reduceLT, Nat.reduceLeDiff, reduceCtorEq, Nat.reduceAdd, Nat.reduceSub, noneS, listS, implies_true, forall_const, ne_eq, n44, n40, q40]
    exact fpost_pure (σ0 := σ) (.inr rfl) (by rw [hnx]; exact Nat.le_refl _) hwf (((Ext.refl _).new _).sub hwf) rfl trivial trivial ⟨rfl, rfl⟩
  cases hb : badAt (toks s.data.toList 0) with
  | some f =>
    have qf : ((f : Int) != (f : Int)) = false := by simp
    refine hx_call (f := .fn 5) rfl (by rw [hP]; exact hcallD_func (new_bad s h4 f hb _ hg)) ?_
    rintro _ σ2 ⟨rfl, h⟩
    subst σ2
    refine hgo_sound 60 ?_
    simp -implicitDefEqProofs (maxSteps := 1000000) only [simpS, ↓condJ_true, ↓condJ_false, ↓reduceIte, Nat.reduceEqDiff, Nat.reduceLT, Nat.reduceLeDiff, reduceCtorEq, Nat.reduceAdd, Nat.reduceSub, noneS, listS, implies_true, forall_const, ne_eq]
    refine hx_call (f := .fn 6) rfl (by rw [hP]; exact hcallD_func (rnew_bad s h4 f hb _)) ?_
    rintro _ σ2 ⟨rfl, h⟩
    subst σ2
    refine hgo_sound 60 ?_
    simp -implicitDefEqProofs (maxSteps := 1000000) only [simpS, ↓condJ_true, ↓condJ_false, ↓reduceIte, Nat.reduceEqDiff, Nat.reduceLT, Nat.reduceLeDiff, reduceCtorEq, Nat.reduceAdd, Nat.reduceSub, noneS, listS, implies_true, forall_const, ne_eq]
    refine hx_call (f := .fn 7) rfl (by rw [hP]; exact hcallD_func (num_calls ((2 : Nat) : Int) _)) ?_
    rintro _ σ2 ⟨rfl, h⟩
    subst σ2
    refine hgo_sound 60 ?_
    simp -implicitDefEqProofs (maxSteps := 1000000) only [simpS, ↓condJ_true, ↓condJ_false, ↓reduceIte, Nat.reduceEqDiff, Nat.reduceLT, Nat.reduceLeDiff, reduceCtorEq, Nat.reduceAdd, Nat.reduceSub, noneS, listS, implies_true, forall_const, ne_eq, n22, n20, qf]
    exact fpost_pure (σ0 := σ) (.inr rfl) (by rw [hnx]; exact Nat.le_refl _) hwf (((Ext.refl _).new _).sub hwf) rfl trivial trivial ⟨rfl, rfl⟩
  | none =>
    refine hx_call (f := .fn 5) rfl (by rw [hP]; exact hcallD_func (new_good s h4 hb σ hg)) ?_
    rintro _ σ2 ⟨rfl, rfl⟩
    refine hgo_sound 60 ?_
    simp -implicitDefEqProofs (maxSteps := 1000000) only [simpS, ↓condJ_true, ↓condJ_false, ↓reduceIte, Nat.reduceEqDiff, Nat.reduceLT, Nat.reduceLeDiff, reduceCtorEq, Nat.reduceAdd, Nat.reduceSub, noneS, listS, implies_true, forall_const, ne_eq]
    refine hx_call (f := .fn 6) rfl (by rw [hP]; exact hcallD_func (rnew_good s h4 hb _)) ?_
    rintro _ σ2 ⟨rfl, h⟩
    subst σ2
    refine hgo_sound 60 ?_
    simp -implicitDefEqProofs (maxSteps := 1000000) only [simpS, ↓condJ_true, ↓condJ_false, ↓reduceIte, Nat.reduceEqDiff, Nat.reduceLT, Nat.reduceLeDiff, reduceCtorEq, Nat.reduceAdd, Nat.reduceSub, noneS, listS, implies_true, forall_const, ne_eq]
    refine hx_call (f := .fn 7) rfl (by rw [hP]; exact hcallD_func (num_calls 0 _)) ?_
    rintro _ σ2 ⟨rfl, h⟩
    subst σ2
    refine hgo_sound 60 ?_
    simp -implicitDefEqProofs (maxSteps := 1000000) only [simpS, ↓condJ_true, ↓condJ_false, ↓reduceIte, Nat.reduceEqDiff, Nat.reduceLT, Nat.reduceLeDiff, reduceCtorEq, Nat.reduceAdd, Nat.reduceSub, noneS, listS, implies_true, forall_const, ne_eq, n00, encAs_length]
    have hgd := start_good h4
    have hlk := lok_start s
    generalize startC s = c0 at *
    refine hx_know_code fun hw hl1 hn => ?_
    rw [show (σ.new (.box (encC c0))).new (.box (encR c0)) = plS σ c0 from rfl] at hw hl1 hn ⊢
    refine hx_loop (S := PlS) (fun t => [(5, .ptr σ.next 0), (8, .ptr (σ.next + 1) 0), (63, .slice .no 4 (encAs l)), (64, .int .i64 (l.length : Int)), (65, .int .i64 (t.i : Int))]) (fun t => plS σ t.c)
      (fun t => t.i ≤ l.length ∧ t.c.good ∧ t.c.lok) (fun t => l.length - t.i) ⟨0, c0⟩ ⟨Nat.zero_le _, hgd, hlk⟩ (fun _ _ h => by rw [hr] at h; cases h) ?_ ?_
    · exact Drop.all hw hn ⟨⟨rfl, hl1 5⟩, ⟨rfl, hl1 8⟩, ⟨rfl, encAs_slt _ _⟩, ⟨rfl, trivial⟩, ⟨rfl, trivial⟩, trivial⟩
    rintro ⟨i, c⟩ ⟨hi, hgc, hlc⟩
    simp only at hi hgc hlc ⊢
    have hok := hgc.ok
    by_cases hil : i < l.length
    rotate_left
    · have d1 : decide ((i : Int) < (l.length : Int)) = false := decide_eq_false (by omega)
      refine hgo_sound 60 ?_
      simp -implicitDefEqProofs (maxSteps := 1000000) only [simpS, ↓condJ_true, ↓condJ_false, ↓reduceIte, Nat.reduceEqDiff, Nat.reduceLT, Nat.reduceLeDiff, reduceCtorEq, Nat.reduceAdd, Nat.reduceSub, noneS, listS, implies_true, forall_const, ne_eq, d1, plS]
      refine hx_call (f := .fn 19) rfl (by rw [hP]; exact hcallD_func (stands_calls8 σ.next c hok hlc ⟨0, 0, 0, ⟨#[]⟩⟩ _ (by simp only [plS, simpS, ↓condJ_true, ↓condJ_false, ↓reduceIte, Nat.reduceEqDiff, Nat.reduceLT, Nat.reduceLeDiff, reduceCtorEq, Nat.reduceAdd, Nat.reduceSub, noneS, listS, implies_true, forall_const, ne_eq]))) ?_
      rintro _ σ2 ⟨rfl, h⟩
      subst σ2
      refine hgo_sound 60 ?_
      simp -implicitDefEqProofs (maxSteps := 1000000) only [simpS, ↓condJ_true, ↓condJ_false, ↓reduceIte, Nat.reduceEqDiff, Nat.reduceLT, Nat.reduceLeDiff, reduceCtorEq, Nat.reduceAdd, Nat.reduceSub, noneS, listS, implies_true, forall_const, ne_eq]
      exact fpost_pure (σ0 := σ) (.inr rfl) (by rw [hnx]; exact Nat.le_refl _) hwf ((((Ext.refl _).new _).new _).sub hwf) rfl trivial trivial ⟨rfl, rfl⟩
    have d1 : decide ((i : Int) < (l.length : Int)) = true := decide_eq_true (by omega)
    have hi2 : (i : Int) < (l.length : Int) := by omega
    have hgt := encAs_get l i hil
    generalize l[i] = t at *
    obtain ⟨tk, tn, ta, tx⟩ := t
    have hwi : IntKind.i64.wrap ((i : Int) + 1) = ((i + 1 : Nat) : Int) := by rw [IntWalk.i64_in _ (by omega)]; rfl
    by_cases h0 : tk = 0
    · have k0 : (tk == 0) = true := by simpa using h0
      have hgc' := good_take hgc (((peekC c 0).1 : Int) == tn)
      have hlc' := lok_take hlc (((peekC c 0).1 : Int) == tn)
      obtain ⟨lk, lg, lt, la, hnode⟩ := take_leaf c (((peekC c 0).1 : Int) == tn)
      rw [show takeC c (((peekC c 0).1 : Int) == tn) = anyC c tn from rfl] at hgc' hlc' hnode
      refine hgo_sound 120 ?_
      simp -implicitDefEqProofs (maxSteps := 1000000) only [simpS, ↓condJ_true, ↓condJ_false, ↓reduceIte, Nat.reduceEqDiff, Nat.reduceLT, Nat.reduceLeDiff, reduceCtorEq, Nat.reduceAdd, Nat.reduceSub, noneS, listS, implies_true, forall_const, ne_eq, d1, hi2, hgt, encAs_length, Int.toNat_natCast, Int.natCast_nonneg, plS, k0]
      refine hx_call (f := .fn 8) rfl (by rw [hP]; exact hcallD_func (cany_calls σ.next c hok tn _ (by simp -implicitDefEqProofs (maxSteps := 1000000) only [simpS, ↓condJ_true, ↓condJ_false, ↓reduceIte, Nat.reduceEqDiff, Nat.reduceLT, Nat.reduceLeDiff, reduceCtorEq, Nat.reduceAdd, Nat.reduceSub, noneS, listS, implies_true, forall_const, ne_eq]))) ?_
      rintro _ σ2 ⟨rfl, rfl⟩
      refine hgo_sound 60 ?_
      simp -implicitDefEqProofs (maxSteps := 1000000) only [simpS, ↓condJ_true, ↓condJ_false, ↓reduceIte, Nat.reduceEqDiff, Nat.reduceLT, Nat.reduceLeDiff, reduceCtorEq, Nat.reduceAdd, Nat.reduceSub, noneS, listS, implies_true, forall_const, ne_eq, encN_length]
      refine hx_call (f := .fn 9) rfl (by rw [hP]; exact hcallD_func (rany_calls c hok hlc tn _)) ?_
      rintro _ σ2 ⟨rfl, h⟩
      subst σ2
      revert hgc' hlc' hnode
      generalize anyC c tn = r
      obtain ⟨c', nd⟩ := r
      rintro hgc' hlc' rfl
      have hok' : c'.ok := hgc'.ok
      refine hgo_sound 60 ?_
      simp -implicitDefEqProofs (maxSteps := 1000000) only [simpS, ↓condJ_true, ↓condJ_false, ↓reduceIte, Nat.reduceEqDiff, Nat.reduceLT, Nat.reduceLeDiff, reduceCtorEq, Nat.reduceAdd, Nat.reduceSub, noneS, listS, implies_true, forall_const, ne_eq, encN_length]
      refine hx_drawgo 1 ?_
      simp -implicitDefEqProofs (maxSteps := 100000000) only [drawS, listS, List.getElem?_cons_zero, List.getElem?_cons_succ, List.getElem?_nil, simpS, ↓condJ_true, ↓condJ_false, ↓reduceIte, Nat.reduceEqDiff, Nat.reduceLT, Nat.reduceLeDiff, reduceCtorEq, Nat.reduceAdd, Nat.reduceSub, noneS, listS, implies_true, forall_const, ne_eq, hnt', encN_length]
      refine hd_call (i := 3) (f := .fn 10) (by simp -implicitDefEqProofs (maxSteps := 100000000) only [drawS, listS, List.getElem?_cons_zero, List.getElem?_cons_succ, List.getElem?_nil, simpS, ↓condJ_true, ↓condJ_false, ↓reduceIte, Nat.reduceEqDiff, Nat.reduceLT, Nat.reduceLeDiff, reduceCtorEq, Nat.reduceAdd, Nat.reduceSub, noneS, listS, implies_true, forall_const, ne_eq, hnt', encN_length]) (by rfl) (by rfl) rfl (by rfl) (by rw [hP]; exact hcallD_func (cis_calls0 lk lg lt la _)) ?_
      rintro _ σ2 ⟨rfl, h⟩
      subst σ2
      refine hdgo_sound 2 ?_
      simp -implicitDefEqProofs (maxSteps := 3000000) only [drawS, listS, List.getElem?_cons_zero, List.getElem?_cons_succ, List.getElem?_nil, simpS, ↓condJ_true, ↓condJ_false, ↓reduceIte, Nat.reduceEqDiff, Nat.reduceLT, Nat.reduceLeDiff, reduceCtorEq, Nat.reduceAdd, Nat.reduceSub, noneS, listS, implies_true, forall_const, ne_eq, hnt', encN_length]
      refine hgo_sound 60 ?_
      simp -implicitDefEqProofs (maxSteps := 1000000) only [simpS, ↓condJ_true, ↓condJ_false, ↓reduceIte, Nat.reduceEqDiff, Nat.reduceLT, Nat.reduceLeDiff, reduceCtorEq, Nat.reduceAdd, Nat.reduceSub, noneS, listS, implies_true, forall_const, ne_eq]
      refine hx_call (f := .fn 19) rfl (by rw [hP]; exact hcallD_func (stands_calls8 σ.next c' hok' hlc' ⟨tk, tn, ta, tx⟩ _ (by simp -implicitDefEqProofs (maxSteps := 1000000) only [simpS, ↓condJ_true, ↓condJ_false, ↓reduceIte, Nat.reduceEqDiff, Nat.reduceLT, Nat.reduceLeDiff, reduceCtorEq, Nat.reduceAdd, Nat.reduceSub, noneS, listS, implies_true, forall_const, ne_eq]))) ?_
      rintro _ σ2 ⟨rfl, h⟩
      subst σ2
      refine hgo_sound 60 ?_
      simp -implicitDefEqProofs (maxSteps := 1000000) only [simpS, ↓condJ_true, ↓condJ_false, ↓reduceIte, Nat.reduceEqDiff, Nat.reduceLT, Nat.reduceLeDiff, reduceCtorEq, Nat.reduceAdd, Nat.reduceSub, noneS, listS, implies_true, forall_const, ne_eq, hwi]
      intro hw5 hl5 hn5
      refine ⟨⟨i + 1, c'⟩, ⟨by simp only; omega, hgc', hlc'⟩, by simp only; omega, ?_⟩
      exact Drop.allS (show Sub (plS σ c') _ from ((((((Ext.refl _).new _).new _).new _).new _)).sub (plS_wf hwf c')) (plS_wf hwf c') (by rw [hnx]; show σ.next ≤ σ.next + 2; omega) ⟨⟨rfl, show σ.next < σ.next + 2 by omega⟩, ⟨rfl, show σ.next + 1 < σ.next + 2 by omega⟩, ⟨rfl, encAs_slt _ _⟩, ⟨rfl, trivial⟩, ⟨rfl, trivial⟩, trivial⟩
    by_cases h1 : tk = 1
    · have k0 : (tk == 0) = false := by simpa using h0
      have k1 : (tk == 1) = true := by simpa using h1
      have hgc' := good_take hgc (isC c 0 tx)
      have hlc' := lok_take hlc (isC c 0 tx)
      obtain ⟨lk, lg, lt, la, hnode⟩ := take_leaf c (isC c 0 tx)
      rw [show takeC c (isC c 0 tx) = wantC c tx from rfl] at hgc' hlc' hnode
      refine hgo_sound 120 ?_
      simp -implicitDefEqProofs (maxSteps := 1000000) only [simpS, ↓condJ_true, ↓condJ_false, ↓reduceIte, Nat.reduceEqDiff, Nat.reduceLT, Nat.reduceLeDiff, reduceCtorEq, Nat.reduceAdd, Nat.reduceSub, noneS, listS, implies_true, forall_const, ne_eq, d1, hi2, hgt, encAs_length, Int.toNat_natCast, Int.natCast_nonneg, plS, k0, k1]
      refine hx_call (f := .fn 11) rfl (by rw [hP]; exact hcallD_func (cwant_calls σ.next c hok tx _ (by simp -implicitDefEqProofs (maxSteps := 1000000) only [simpS, ↓condJ_true, ↓condJ_false, ↓reduceIte, Nat.reduceEqDiff, Nat.reduceLT, Nat.reduceLeDiff, reduceCtorEq, Nat.reduceAdd, Nat.reduceSub, noneS, listS, implies_true, forall_const, ne_eq]))) ?_
      rintro _ σ2 ⟨rfl, rfl⟩
      refine hgo_sound 60 ?_
      simp -implicitDefEqProofs (maxSteps := 1000000) only [simpS, ↓condJ_true, ↓condJ_false, ↓reduceIte, Nat.reduceEqDiff, Nat.reduceLT, Nat.reduceLeDiff, reduceCtorEq, Nat.reduceAdd, Nat.reduceSub, noneS, listS, implies_true, forall_const, ne_eq, encN_length]
      refine hx_call (f := .fn 12) rfl (by rw [hP]; exact hcallD_func (rwant_calls c hok hlc tx _)) ?_
      rintro _ σ2 ⟨rfl, h⟩
      subst σ2
      revert hgc' hlc' hnode
      generalize wantC c tx = r
      obtain ⟨c', nd⟩ := r
      rintro hgc' hlc' rfl
      have hok' : c'.ok := hgc'.ok
      refine hgo_sound 60 ?_
      simp -implicitDefEqProofs (maxSteps := 1000000) only [simpS, ↓condJ_true, ↓condJ_false, ↓reduceIte, Nat.reduceEqDiff, Nat.reduceLT, Nat.reduceLeDiff, reduceCtorEq, Nat.reduceAdd, Nat.reduceSub, noneS, listS, implies_true, forall_const, ne_eq, encN_length]
      refine hx_drawgo 1 ?_
      simp -implicitDefEqProofs (maxSteps := 100000000) only [drawS, listS, List.getElem?_cons_zero, List.getElem?_cons_succ, List.getElem?_nil, simpS, ↓condJ_true, ↓condJ_false, ↓reduceIte, Nat.reduceEqDiff, Nat.reduceLT, Nat.reduceLeDiff, reduceCtorEq, Nat.reduceAdd, Nat.reduceSub, noneS, listS, implies_true, forall_const, ne_eq, hnt', encN_length]
      refine hd_call (i := 3) (f := .fn 10) (by simp -implicitDefEqProofs (maxSteps := 100000000) only [drawS, listS, List.getElem?_cons_zero, List.getElem?_cons_succ, List.getElem?_nil, simpS, ↓condJ_true, ↓condJ_false, ↓reduceIte, Nat.reduceEqDiff, Nat.reduceLT, Nat.reduceLeDiff, reduceCtorEq, Nat.reduceAdd, Nat.reduceSub, noneS, listS, implies_true, forall_const, ne_eq, hnt', encN_length]) (by rfl) (by rfl) rfl (by rfl) (by rw [hP]; exact hcallD_func (cis_calls0 lk lg lt la _)) ?_
      rintro _ σ2 ⟨rfl, h⟩
      subst σ2
      refine hdgo_sound 2 ?_
      simp -implicitDefEqProofs (maxSteps := 3000000) only [drawS, listS, List.getElem?_cons_zero, List.getElem?_cons_succ, List.getElem?_nil, simpS, ↓condJ_true, ↓condJ_false, ↓reduceIte, Nat.reduceEqDiff, Nat.reduceLT, Nat.reduceLeDiff, reduceCtorEq, Nat.reduceAdd, Nat.reduceSub, noneS, listS, implies_true, forall_const, ne_eq, hnt', encN_length]
      refine hgo_sound 60 ?_
      simp -implicitDefEqProofs (maxSteps := 1000000) only [simpS, ↓condJ_true, ↓condJ_false, ↓reduceIte, Nat.reduceEqDiff, Nat.reduceLT, Nat.reduceLeDiff, reduceCtorEq, Nat.reduceAdd, Nat.reduceSub, noneS, listS, implies_true, forall_const, ne_eq]
      refine hx_call (f := .fn 19) rfl (by rw [hP]; exact hcallD_func (stands_calls8 σ.next c' hok' hlc' ⟨tk, tn, ta, tx⟩ _ (by simp -implicitDefEqProofs (maxSteps := 1000000) only [simpS, ↓condJ_true, ↓condJ_false, ↓reduceIte, Nat.reduceEqDiff, Nat.reduceLT, Nat.reduceLeDiff, reduceCtorEq, Nat.reduceAdd, Nat.reduceSub, noneS, listS, implies_true, forall_const, ne_eq]))) ?_
      rintro _ σ2 ⟨rfl, h⟩
      subst σ2
      refine hgo_sound 60 ?_
      simp -implicitDefEqProofs (maxSteps := 1000000) only [simpS, ↓condJ_true, ↓condJ_false, ↓reduceIte, Nat.reduceEqDiff, Nat.reduceLT, Nat.reduceLeDiff, reduceCtorEq, Nat.reduceAdd, Nat.reduceSub, noneS, listS, implies_true, forall_const, ne_eq, hwi]
      intro hw5 hl5 hn5
      refine ⟨⟨i + 1, c'⟩, ⟨by simp only; omega, hgc', hlc'⟩, by simp only; omega, ?_⟩
      exact Drop.allS (show Sub (plS σ c') _ from ((((((Ext.refl _).new _).new _).new _).new _)).sub (plS_wf hwf c')) (plS_wf hwf c') (by rw [hnx]; show σ.next ≤ σ.next + 2; omega) ⟨⟨rfl, show σ.next < σ.next + 2 by omega⟩, ⟨rfl, show σ.next + 1 < σ.next + 2 by omega⟩, ⟨rfl, encAs_slt _ _⟩, ⟨rfl, trivial⟩, ⟨rfl, trivial⟩, trivial⟩
    by_cases h2 : tk = 2
    · have k0 : (tk == 0) = false := by simpa using h0
      have k1 : (tk == 1) = false := by simpa using h1
      have k2 : (tk == 2) = true := by simpa using h2
      have hgc' := good_down hgc
      have hlc' := lok_down hlc
      refine hgo_sound 120 ?_
      simp -implicitDefEqProofs (maxSteps := 1000000) only [simpS, ↓condJ_true, ↓condJ_false, ↓reduceIte, Nat.reduceEqDiff, Nat.reduceLT, Nat.reduceLeDiff, reduceCtorEq, Nat.reduceAdd, Nat.reduceSub, noneS, listS, implies_true, forall_const, ne_eq, d1, hi2, hgt, encAs_length, Int.toNat_natCast, Int.natCast_nonneg, plS, k0, k1, k2]
      refine hx_call (f := .fn 13) rfl (by rw [hP]; exact hcallD_func (cdown_calls σ.next c hok _ (by simp -implicitDefEqProofs (maxSteps := 1000000) only [simpS, ↓condJ_true, ↓condJ_false, ↓reduceIte, Nat.reduceEqDiff, Nat.reduceLT, Nat.reduceLeDiff, reduceCtorEq, Nat.reduceAdd, Nat.reduceSub, noneS, listS, implies_true, forall_const, ne_eq]))) ?_
      rintro _ σ2 ⟨rfl, rfl⟩
      refine hgo_sound 60 ?_
      simp -implicitDefEqProofs (maxSteps := 1000000) only [simpS, ↓condJ_true, ↓condJ_false, ↓reduceIte, Nat.reduceEqDiff, Nat.reduceLT, Nat.reduceLeDiff, reduceCtorEq, Nat.reduceAdd, Nat.reduceSub, noneS, listS, implies_true, forall_const, ne_eq]
      refine hx_call (f := .fn 14) rfl (by rw [hP]; exact hcallD_func (rdown_calls c hok hgc.deep _)) ?_
      rintro _ σ2 ⟨rfl, h⟩
      subst σ2
      revert hgc' hlc'
      generalize downC c = r
      obtain ⟨c', bb⟩ := r
      intro hgc' hlc'
      have hok' : c'.ok := hgc'.ok
      refine hgo_sound 60 ?_
      simp -implicitDefEqProofs (maxSteps := 1000000) only [simpS, ↓condJ_true, ↓condJ_false, ↓reduceIte, Nat.reduceEqDiff, Nat.reduceLT, Nat.reduceLeDiff, reduceCtorEq, Nat.reduceAdd, Nat.reduceSub, noneS, listS, implies_true, forall_const, ne_eq]
      refine hx_call (f := .fn 19) rfl (by rw [hP]; exact hcallD_func (stands_calls8 σ.next c' hok' hlc' ⟨tk, tn, ta, tx⟩ _ (by simp -implicitDefEqProofs (maxSteps := 1000000) only [simpS, ↓condJ_true, ↓condJ_false, ↓reduceIte, Nat.reduceEqDiff, Nat.reduceLT, Nat.reduceLeDiff, reduceCtorEq, Nat.reduceAdd, Nat.reduceSub, noneS, listS, implies_true, forall_const, ne_eq]))) ?_
      rintro _ σ2 ⟨rfl, h⟩
      subst σ2
      refine hgo_sound 60 ?_
      simp -implicitDefEqProofs (maxSteps := 1000000) only [simpS, ↓condJ_true, ↓condJ_false, ↓reduceIte, Nat.reduceEqDiff, Nat.reduceLT, Nat.reduceLeDiff, reduceCtorEq, Nat.reduceAdd, Nat.reduceSub, noneS, listS, implies_true, forall_const, ne_eq, hwi]
      intro hw5 hl5 hn5
      refine ⟨⟨i + 1, c'⟩, ⟨by simp only; omega, hgc', hlc'⟩, by simp only; omega, ?_⟩
      exact Drop.allS (show Sub (plS σ c') _ from ((((Ext.refl _).new _).new _)).sub (plS_wf hwf c')) (plS_wf hwf c') (by rw [hnx]; show σ.next ≤ σ.next + 2; omega) ⟨⟨rfl, show σ.next < σ.next + 2 by omega⟩, ⟨rfl, show σ.next + 1 < σ.next + 2 by omega⟩, ⟨rfl, encAs_slt _ _⟩, ⟨rfl, trivial⟩, ⟨rfl, trivial⟩, trivial⟩
    by_cases h3 : tk = 3
    · have k0 : (tk == 0) = false := by simpa using h0
      have k1 : (tk == 1) = false := by simpa using h1
      have k2 : (tk == 2) = false := by simpa using h2
      have k3 : (tk == 3) = true := by simpa using h3
      have hgc' := good_up hgc
      have hlc' := lok_up hlc
      refine hgo_sound 120 ?_
      simp -implicitDefEqProofs (maxSteps := 1000000) only [simpS, ↓condJ_true, ↓condJ_false, ↓reduceIte, Nat.reduceEqDiff, Nat.reduceLT, Nat.reduceLeDiff, reduceCtorEq, Nat.reduceAdd, Nat.reduceSub, noneS, listS, implies_true, forall_const, ne_eq, d1, hi2, hgt, encAs_length, Int.toNat_natCast, Int.natCast_nonneg, plS, k0, k1, k2, k3]
      refine hx_call (f := .fn 15) rfl (by rw [hP]; exact hcallD_func (cup_calls σ.next c (by have := hgc.deep; omega) _ (by simp -implicitDefEqProofs (maxSteps := 1000000) only [simpS, ↓condJ_true, ↓condJ_false, ↓reduceIte, Nat.reduceEqDiff, Nat.reduceLT, Nat.reduceLeDiff, reduceCtorEq, Nat.reduceAdd, Nat.reduceSub, noneS, listS, implies_true, forall_const, ne_eq]))) ?_
      rintro _ σ2 ⟨rfl, rfl⟩
      refine hgo_sound 60 ?_
      simp -implicitDefEqProofs (maxSteps := 1000000) only [simpS, ↓condJ_true, ↓condJ_false, ↓reduceIte, Nat.reduceEqDiff, Nat.reduceLT, Nat.reduceLeDiff, reduceCtorEq, Nat.reduceAdd, Nat.reduceSub, noneS, listS, implies_true, forall_const, ne_eq]
      refine hx_call (f := .fn 16) rfl (by rw [hP]; exact hcallD_func (rup_calls c hgc.deep _)) ?_
      rintro _ σ2 ⟨rfl, h⟩
      subst σ2
      revert hgc' hlc'
      generalize upC c = c'
      intro hgc' hlc'
      have hok' : c'.ok := hgc'.ok
      refine hgo_sound 60 ?_
      simp -implicitDefEqProofs (maxSteps := 1000000) only [simpS, ↓condJ_true, ↓condJ_false, ↓reduceIte, Nat.reduceEqDiff, Nat.reduceLT, Nat.reduceLeDiff, reduceCtorEq, Nat.reduceAdd, Nat.reduceSub, noneS, listS, implies_true, forall_const, ne_eq]
      refine hx_call (f := .fn 19) rfl (by rw [hP]; exact hcallD_func (stands_calls8 σ.next c' hok' hlc' ⟨tk, tn, ta, tx⟩ _ (by simp -implicitDefEqProofs (maxSteps := 1000000) only [simpS, ↓condJ_true, ↓condJ_false, ↓reduceIte, Nat.reduceEqDiff, Nat.reduceLT, Nat.reduceLeDiff, reduceCtorEq, Nat.reduceAdd, Nat.reduceSub, noneS, listS, implies_true, forall_const, ne_eq]))) ?_
      rintro _ σ2 ⟨rfl, h⟩
      subst σ2
      refine hgo_sound 60 ?_
      simp -implicitDefEqProofs (maxSteps := 1000000) only [simpS, ↓condJ_true, ↓condJ_false, ↓reduceIte, Nat.reduceEqDiff, Nat.reduceLT, Nat.reduceLeDiff, reduceCtorEq, Nat.reduceAdd, Nat.reduceSub, noneS, listS, implies_true, forall_const, ne_eq, hwi]
      intro hw5 hl5 hn5
      refine ⟨⟨i + 1, c'⟩, ⟨by simp only; omega, hgc', hlc'⟩, by simp only; omega, ?_⟩
      exact Drop.allS (show Sub (plS σ c') _ from (((Ext.refl _).new _)).sub (plS_wf hwf c')) (plS_wf hwf c') (by rw [hnx]; show σ.next ≤ σ.next + 2; omega) ⟨⟨rfl, show σ.next < σ.next + 2 by omega⟩, ⟨rfl, show σ.next + 1 < σ.next + 2 by omega⟩, ⟨rfl, encAs_slt _ _⟩, ⟨rfl, trivial⟩, ⟨rfl, trivial⟩, trivial⟩
    · have k0 : (tk == 0) = false := by simpa using h0
      have k1 : (tk == 1) = false := by simpa using h1
      have k2 : (tk == 2) = false := by simpa using h2
      have k3 : (tk == 3) = false := by simpa using h3
      have hgc' := good_fail hgc tn
      have hlc' := lok_fail hlc tn
      refine hgo_sound 120 ?_
      simp -implicitDefEqProofs (maxSteps := 1000000) only [simpS, ↓condJ_true, ↓condJ_false, ↓reduceIte, Nat.reduceEqDiff, Nat.reduceLT, Nat.reduceLeDiff, reduceCtorEq, Nat.reduceAdd, Nat.reduceSub, noneS, listS, implies_true, forall_const, ne_eq, d1, hi2, hgt, encAs_length, Int.toNat_natCast, Int.natCast_nonneg, plS, k0, k1, k2, k3]
      refine hx_call (f := .fn 17) rfl (by rw [hP]; exact hcallD_func (fail_calls σ.next c hok tn _ (by simp -implicitDefEqProofs (maxSteps := 1000000) only [simpS, ↓condJ_true, ↓condJ_false, ↓reduceIte, Nat.reduceEqDiff, Nat.reduceLT, Nat.reduceLeDiff, reduceCtorEq, Nat.reduceAdd, Nat.reduceSub, noneS, listS, implies_true, forall_const, ne_eq]))) ?_
      rintro _ σ2 ⟨rfl, rfl⟩
      refine hgo_sound 60 ?_
      simp -implicitDefEqProofs (maxSteps := 1000000) only [simpS, ↓condJ_true, ↓condJ_false, ↓reduceIte, Nat.reduceEqDiff, Nat.reduceLT, Nat.reduceLeDiff, reduceCtorEq, Nat.reduceAdd, Nat.reduceSub, noneS, listS, implies_true, forall_const, ne_eq]
      refine hx_call (f := .fn 18) rfl (by rw [hP]; exact hcallD_func (rfail_calls c hok tn _)) ?_
      rintro _ σ2 ⟨rfl, h⟩
      subst σ2
      revert hgc' hlc'
      generalize failC c tn = c'
      intro hgc' hlc'
      have hok' : c'.ok := hgc'.ok
      refine hgo_sound 60 ?_
      simp -implicitDefEqProofs (maxSteps := 1000000) only [simpS, ↓condJ_true, ↓condJ_false, ↓reduceIte, Nat.reduceEqDiff, Nat.reduceLT, Nat.reduceLeDiff, reduceCtorEq, Nat.reduceAdd, Nat.reduceSub, noneS, listS, implies_true, forall_const, ne_eq]
      refine hx_call (f := .fn 19) rfl (by rw [hP]; exact hcallD_func (stands_calls8 σ.next c' hok' hlc' ⟨tk, tn, ta, tx⟩ _ (by simp -implicitDefEqProofs (maxSteps := 1000000) only [simpS, ↓condJ_true, ↓condJ_false, ↓reduceIte, Nat.reduceEqDiff, Nat.reduceLT, Nat.reduceLeDiff, reduceCtorEq, Nat.reduceAdd, Nat.reduceSub, noneS, listS, implies_true, forall_const, ne_eq]))) ?_
      rintro _ σ2 ⟨rfl, h⟩
      subst σ2
      refine hgo_sound 60 ?_
      simp -implicitDefEqProofs (maxSteps := 1000000) only [simpS, ↓condJ_true, ↓condJ_false, ↓reduceIte, Nat.reduceEqDiff, Nat.reduceLT, Nat.reduceLeDiff, reduceCtorEq, Nat.reduceAdd, Nat.reduceSub, noneS, listS, implies_true, forall_const, ne_eq, hwi]
      intro hw5 hl5 hn5
      refine ⟨⟨i + 1, c'⟩, ⟨by simp only; omega, hgc', hlc'⟩, by simp only; omega, ?_⟩
      exact Drop.allS (show Sub (plS σ c') _ from (((Ext.refl _).new _)).sub (plS_wf hwf c')) (plS_wf hwf c') (by rw [hnx]; show σ.next ≤ σ.next + 2; omega) ⟨⟨rfl, show σ.next < σ.next + 2 by omega⟩, ⟨rfl, show σ.next + 1 < σ.next + 2 by omega⟩, ⟨rfl, encAs_slt _ _⟩, ⟨rfl, trivial⟩, ⟨rfl, trivial⟩, trivial⟩

end Go.Hl
set_option linter.unusedSectionVars false
set_option linter.unusedVariables false
namespace Go.Hl
open Go Go.RowKit

section
variable {H : Type} {enc : TypeId × Value → H} {P : Program} {W : World} {sp : Nat → Bool} {held : Bool}

theorem weightsAll_mem {e : TypeId} {d : DataW H} : ∀ {ds : List (DataW H)}, d ∈ ds → ∀ n ∈ d.weights P e, n ∈ DataW.weightsAll P e ds
  | x :: ds, h, n, hn => by
    simp only [DataW.weightsAll, List.mem_append]
    rcases List.mem_cons.1 h with rfl | h
    · exact .inl hn
    · exact .inr (weightsAll_mem h n hn)

theorem trod_string_w {t : TypeId} (hu : P.underlying t = some .string) {fuel : Nat} {v : Value} {d : DataW H} {ps : List MemPlace} (h : DataW.trod enc P W 0 sp held fuel t [v] = some (d, ps)) :
    ∃ s, v = .string s ∧ s.size ∈ d.weights P t := by
  cases fuel with
  | zero => simp [DataW.trod] at h
  | succ fuel =>
    unfold DataW.trod at h
    rw [hu] at h
    cases v <;> simp at h
    rename_i s
    obtain ⟨_, rfl, _⟩ := h
    exact ⟨_, rfl, by simp [DataW.weights]⟩

theorem trod_slice_w {t e : TypeId} (hu : P.underlying t = some (.slice e)) {fuel : Nat} {v : Value} {d : DataW H} {ps : List MemPlace} (h : DataW.trod enc P W 0 (fun _ => true) held (fuel + 1) t [v] = some (d, ps)) :
    v = .slice none 0 0 ∨ ∃ a len cap, v = .slice (some a) len cap ∧ len ≤ cap ∧ cap ≤ maxLen ∧ cap * P.bytesOf e ∈ d.weights P t ∧
      ∀ i, i < cap → ∃ cs d' ps, W.cells? 0 (a.add (i * P.cellsOf e)) (P.cellsOf e) = some cs ∧ DataW.trod enc P W 0 (fun _ => true) held fuel e cs = some (d', ps) ∧ ∀ n ∈ d'.weights P e, n ∈ d.weights P t := by
  unfold DataW.trod at h
  rw [hu] at h
  cases v
  case slice A len cap =>
    cases A with
    | none =>
      cases len with
      | zero =>
        cases cap with
        | zero => exact .inl rfl
        | succ c => simp at h
      | succ n => simp at h
    | some a =>
      refine .inr ⟨a, len, cap, rfl, ?_⟩
      simp only at h
      split at h; rotate_left; · cases h
      rename_i hc
      obtain ⟨elems, he, h⟩ := Option.bind_eq_some_iff.1 h
      obtain ⟨rest, hr, hd⟩ := Option.map_eq_some_iff.1 h
      rw [if_pos trivial] at hr
      obtain ⟨l2, h2⟩ := opt_mapM he
      obtain ⟨l3, h3⟩ := opt_mapM hr
      simp only [Prod.mk.injEq] at hd
      obtain ⟨rfl, _⟩ := hd
      simp only [List.length_range] at l2 l3
      have hw : DataW.weights P t (.slice (elems.map (·.1)) (rest.map (·.1)) : DataW H) = (cap * P.bytesOf e) :: (DataW.weightsAll P e (elems.map (·.1)) ++ DataW.weightsAll P e (rest.map (·.1))) := by
        simp only [DataW.weights, hu, List.length_map, l2, l3]
        rw [show len + (cap - len) = cap by omega]
      rw [hw]
      refine ⟨hc.2.1, hc.2.2, by simp, fun i hi => ?_⟩
      obtain ⟨y, hm, hy⟩ : ∃ y : DataW H × List MemPlace, (y ∈ elems ∨ y ∈ rest) ∧ (W.cells? 0 (a.add (i * P.cellsOf e)) (P.cellsOf e)).bind (DataW.trod enc P W 0 (fun _ => true) held fuel e) = some y := by
        rcases Nat.lt_or_ge i len with hl | hl
        · obtain ⟨y, h0, hy⟩ := h2 i i (by simp [hl])
          exact ⟨y, .inl (List.mem_of_getElem? h0), hy⟩
        · obtain ⟨y, h0, hy⟩ := h3 (i - len) (i - len) (by rw [List.getElem?_range (by omega)])
          rw [show len + (i - len) = i by omega] at hy
          exact ⟨y, .inr (List.mem_of_getElem? h0), hy⟩
      obtain ⟨cs, hcs, hy⟩ := Option.bind_eq_some_iff.1 hy
      refine ⟨cs, y.1, y.2, hcs, hy, fun n hn => ?_⟩
      simp only [List.mem_cons, List.mem_append]
      rcases hm with hm | hm
      · exact .inr (.inl (weightsAll_mem (List.mem_map_of_mem hm) n hn))
      · exact .inr (.inr (weightsAll_mem (List.mem_map_of_mem hm) n hn))
  all_goals simp at h

theorem trod_struct_w {t : TypeId} {fs : Array Field} (hu : P.underlying t = some (.struct fs)) {fuel : Nat} {cs : List Value} {d : DataW H} {ps : List MemPlace} (h : DataW.trod enc P W 0 sp held (fuel + 1) t cs = some (d, ps)) :
    cs.length = P.cellsOf t ∧ ∀ (i : Nat) f, fs[i]? = some f → ∃ d' ps, DataW.trod enc P W 0 sp held fuel f.type ((cs.drop f.offset).take (P.cellsOf f.type)) = some (d', ps) ∧ ∀ n ∈ d'.weights P f.type, n ∈ d.weights P t := by
  unfold DataW.trod at h
  rw [hu] at h
  simp only at h
  split at h; rotate_left; · cases h
  rename_i hc
  refine ⟨hc, fun i f hf => ?_⟩
  obtain ⟨xs, hx, hd⟩ := Option.map_eq_some_iff.1 h
  obtain ⟨_, h2⟩ := opt_mapM hx
  obtain ⟨y, h0, hy⟩ := h2 i f (by simpa using hf)
  simp only [Prod.mk.injEq] at hd
  obtain ⟨rfl, _⟩ := hd
  refine ⟨y.1, y.2, hy, fun n hn => ?_⟩
  have hw : DataW.weights P t (.agg (xs.map (·.1)) : DataW H) = DataW.weightsEach P (fs.toList.map (·.type)) (xs.map (·.1)) := by simp only [DataW.weights, hu]
  rw [hw]
  exact DataW.weights_mem_each (j := i) (t := f.type) (by simp [hf]) (by simp [h0]) n hn

end

theorem read_slice {H : Type} {enc : TypeId × Value → H} {P : Program} {W : World} {held : Bool} {t e k : TypeId} {X : Type} {en : X → List D} {ok : X → Prop} (hu : P.underlying t = some (.slice e)) (hk : P.cellsOf e = k) (hk0 : 0 < k) (hlen : ∀ x, (en x).length = k)
    {fuel : Nat} (elem : ∀ (cs : List Value) (d : DataW H) (ps : List MemPlace), DataW.trod enc P W 0 (fun _ => true) held fuel e cs = some (d, ps) → (∀ x ∈ d.weights P e, x ≤ reachBytes) → ∃ x, RC g0 W (en x) cs ∧ ok x)
    {v : Value} {d : DataW H} {ps : List MemPlace} (h : DataW.trod enc P W 0 (fun _ => true) held (fuel + 1) t [v] = some (d, ps)) (hwt : ∀ x ∈ d.weights P t, x ≤ reachBytes) :
    ∃ l : List X, R g0 W (.slice .no k (l.map en)) v ∧ v.oneCell' = true ∧ l.length * P.bytesOf e ≤ reachBytes ∧ ∀ x ∈ l, ok x := by
  rcases trod_slice_w hu h with rfl | ⟨ad, len, cap, rfl, hlc, hcm, hcw, hel⟩
  · refine ⟨[], ?_, rfl, by simp, fun _ h => by cases h⟩
    simp only [R, List.map_nil]
    exact ⟨none, 0, rfl, Nat.le_refl _, ⟨rfl, rfl⟩, trivial, fun b off hA => by cases hA⟩
  · rw [hk] at hel
    have pick : ∀ j, j ≤ len → ∃ ks : List X, ks.length = j ∧ (∀ x ∈ ks, ok x) ∧ ∀ i n, ks[i]? = some n → ∃ cs, W.cells? 0 (ad.add ((len - j + i) * k)) k = some cs ∧ RC g0 W (en n) cs := by
      intro j
      induction j with
      | zero => exact fun _ => ⟨[], rfl, (fun _ h => by cases h), fun i n h => by simp at h⟩
      | succ j ih =>
        intro hj
        obtain ⟨ks, h1, h2, h3⟩ := ih (by omega)
        obtain ⟨cs, d', ps', hcs, htr, hww⟩ := hel (len - (j + 1)) (by omega)
        obtain ⟨n, hn, hok⟩ := elem cs d' ps' htr fun x hx => hwt x (hww x hx)
        refine ⟨n :: ks, by simp [h1], ?_, fun i m hm => ?_⟩
        · intro x hx
          rcases List.mem_cons.1 hx with rfl | hx
          · exact hok
          · exact h2 x hx
        · cases i with
          | zero =>
            simp at hm
            subst hm
            exact ⟨cs, by simpa using hcs, hn⟩
          | succ i =>
            obtain ⟨cs', q1, q2⟩ := h3 i m (by simpa using hm)
            exact ⟨cs', by rwa [show len - (j + 1) + (i + 1) = len - j + i by omega], q2⟩
    obtain ⟨ks, h1, h2, h3⟩ := pick len (Nat.le_refl _)
    have hcell : ∀ (i : Nat) n, ks[i]? = some n → ∀ (j : Nat) dd, (en n)[j]? = some dd → ∃ u, W.cell? ((ad.add (i * k)).add j) = some u ∧ u.oneCell' = true ∧ R g0 W dd u := by
      intro i n hi j dd hj
      obtain ⟨cs, q1, q2⟩ := h3 i n hi
      rw [show len - len + i = i by omega] at q1
      obtain ⟨r1, r2⟩ := cells_read q1
      obtain ⟨u, hu, ho, hr⟩ := q2.get hj
      have hjl : j < k := by
        have := (List.getElem?_eq_some_iff.1 hj).1
        rwa [hlen] at this
      obtain ⟨v, hv1, hv2⟩ := r2 j hjl
      rw [hu] at hv1
      injection hv1 with hv1
      subst hv1
      exact ⟨u, hv2, ho, hr⟩
    have hcb := hwt _ hcw
    refine ⟨ks, ?_, rfl, ?_, h2⟩
    · simp only [R]
      refine ⟨some ad, cap, by rw [List.length_map, h1], by rw [List.length_map, h1]; exact hlc, ?_, trivial, fun b off hA => ?_⟩
      · by_cases hk : cap = 0
        · exact Or.inr hk
        · refine Or.inl ?_
          obtain ⟨cs, d', ps', hcs, _, _⟩ := hel 0 (by omega)
          obtain ⟨v, _, hv⟩ := (cells_read hcs).2 0 (by omega)
          have := (imm0 hv).1
          simpa [Addr.add] using this
      · injection hA with hA
        subst hA
        refine RX.of_get fun i x hx => ?_
        obtain ⟨n, hn, rfl⟩ : ∃ n, ks[i]? = some n ∧ en n = x := by simpa using hx
        refine ⟨hlen n, RM.of_get fun j dd hj => ?_⟩
        obtain ⟨u, hu, ho, hr⟩ := hcell i n hn j dd hj
        obtain ⟨_, him⟩ := imm0 hu
        refine ⟨u, ?_, ho, hr⟩
        simpa [Addr.add_lit] using him
    · refine Nat.le_trans (Nat.mul_le_mul_right _ ?_) hcb
      omega

end Go.Hl
