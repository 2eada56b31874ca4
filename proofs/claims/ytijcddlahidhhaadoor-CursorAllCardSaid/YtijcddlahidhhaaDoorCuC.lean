/-
  Layer 8: tokens are taken.
-/
import Derived.Test.YtijcddlahidhhaaDoorTrB
import Derived.Test.YtijcddlahidhhaaDoorSgE
import Derived.Test.YtijcddlahidhhaaDoorHlS
import Derived.LaidLaws
import Derived.Handed
import Derived.Shelf.Vars
import Derived.ProofKit
import Derived.SizedLaws
import Derived.Carry
import Derived.OpenShut
import Derived.ChangeMaps5
import Derived.SevenTiedAt
import Derived.Test.YtijcddlahidhhaaDoorRows
import Derived.LaidHandle
set_option linter.unusedSectionVars false
set_option linter.unusedVariables false
set_option linter.unusedSimpArgs false
set_option maxRecDepth 100000
namespace Go.Hl
open Go Go.Proofs Go.RowKit

theorem encC_lt (c : Cu) (n : Nat) : ltL n (encC c) := ⟨trivial, ⟨trivial, encTk_lt _ _⟩, trivial, trivial, trivial, trivial, trivial, trivial⟩

def drS (S0 S1 S2 : St) (a b : Nat) (L : Nat → Bool) : St := if L b then S2 else if L a then S1 else S0
theorem drS_start (S0 S1 S2 : St) (a b : Nat) : drS S0 S1 S2 a b (fun _ => false) = S0 := rfl
theorem drS_upd {S0 S1 S2 : St} {a b : Nat} {L : Nat → Bool} {i : Nat} (h1 : a ≠ i) (h2 : b ≠ i) : drS S0 S1 S2 a b (upd L i true) = drS S0 S1 S2 a b L := by
  simp only [drS, upd, if_neg h1, if_neg h2]
theorem drS_a {S0 S1 S2 : St} {a b : Nat} {L : Nat → Bool} (hb : L b = false) (hab : b ≠ a) : drS S0 S1 S2 a b (upd L a true) = S1 := by
  simp [drS, upd, hab, hb]
theorem drS_b {S0 S1 S2 : St} {a b : Nat} {L : Nat → Bool} : drS S0 S1 S2 a b (upd L b true) = S2 := by
  simp [drS, upd]
theorem drS_0 {S0 S1 S2 : St} {a b : Nat} {L : Nat → Bool} (ha : L a = false) (hb : L b = false) : drS S0 S1 S2 a b L = S0 := by
  simp [drS, ha, hb]
theorem drS_1 {S0 S1 S2 : St} {a b : Nat} {L : Nat → Bool} (ha : L a = true) (hb : L b = false) : drS S0 S1 S2 a b L = S1 := by
  simp [drS, ha, hb]
theorem drS_all {S0 S1 S2 : St} {a b : Nat} {L : Nat → Bool} {o : Option Ob} {id : Nat} (h0 : S0.obj id = o) (h1 : S1.obj id = o) (h2 : S2.obj id = o) : (drS S0 S1 S2 a b L).obj id = o := by
  unfold drS
  split
  · exact h2
  · split
    · exact h1
    · exact h0

def zNd : Nd := .mk 0 ⟨#[]⟩ ⟨#[]⟩ 0 []

def takeC (c : Cu) (w : Bool) : Cu × Nd :=
  if w = true ∧ leftC c ≠ 0 then ({ c with n := c.n + 1, la := (c.L.getD c.n ⟨0, 0, 0⟩).t }, .mk 1 (c.s.extract c.la (c.L.getD c.n ⟨0, 0, 0⟩).f) (textT c.s (c.L.getD c.n ⟨0, 0, 0⟩)) ((c.L.getD c.n ⟨0, 0, 0⟩).f : Int) [])
  else (failC c 2, zNd)

set_option maxHeartbeats 4000000 in
theorem take_calls (id : Nat) (c : Cu) (hc : c.ok) (w : Bool) (σ : St) (ho : σ.obj id = some (.box (encC c))) : HCalls Tryd.prog 26 [.ptr id 0, .bool w] σ (fun d σ' => d = .agg (encN (takeC c w).2) ∧ σ' = σ.put id (.box (encC (takeC c w).1))) := by
  refine hcalls_body (fn := Tryd.f26) rfl c26 (by simp [h26]) (by simp [h26, Tryd.f26]) ?_
  intro M hP hr hnt hnx hwf hlt
  simp only [h26, argEnv]
  have hnt' : M.nt = 61 := hnt
  have hid := (hwf.obj _ _ ho).1
  have hn0 : ¬ id = σ.next := by omega
  have hn0' : ¬ σ.next = id := by omega
  have hn1 : ¬ id = σ.next + 1 := by omega
  have hn1' : ¬ σ.next + 1 = id := by omega
  have hn2 : ¬ id = σ.next + 2 := by omega
  have hn2' : ¬ σ.next + 2 = id := by omega
  have hwf2 : ∀ c', (σ.put id (.box (encC c'))).wf := fun c' => hwf.put hid (encC_lt c' _)
  cases w with
  | false =>
    have ht : takeC c false = (failC c 2, zNd) := by unfold takeC; rw [if_neg (fun h => by cases h.1)]
    refine hgo_sound 60 ?_
    simp -implicitDefEqProofs (maxSteps := 1000000) only [simpS, ↓condJ_true, ↓condJ_false, ↓reduceIte, Nat.reduceEqDiff, Nat.reduceLT, Nat.reduceLeDiff, reduceCtorEq, Nat.reduceAdd, Nat.reduceSub, noneS, listS, implies_true, forall_const, ne_eq]
    refine hx_call (f := .fn 12) rfl (by rw [hP]; exact hcallD_func (fail_calls id c hc 2 _ (by simp -implicitDefEqProofs (maxSteps := 1000000) only [simpS, ↓condJ_true, ↓condJ_false, ↓reduceIte, Nat.reduceEqDiff, Nat.reduceLT, Nat.reduceLeDiff, reduceCtorEq, Nat.reduceAdd, Nat.reduceSub, noneS, listS, implies_true, forall_const, ne_eq, hn0]; exact ho))) ?_
    rintro _ σ2 ⟨rfl, rfl⟩
    refine hgo_sound 60 ?_
    simp -implicitDefEqProofs (maxSteps := 1000000) only [simpS, ↓condJ_true, ↓condJ_false, ↓reduceIte, Nat.reduceEqDiff, Nat.reduceLT, Nat.reduceLeDiff, reduceCtorEq, Nat.reduceAdd, Nat.reduceSub, noneS, listS, implies_true, forall_const, ne_eq, hn0, hn0']
    refine fpost_wk (ds := [.agg [.int .i64 0, .str ⟨#[]⟩, .str ⟨#[]⟩, .int .i64 0, .slice .nil 0 []]]) (d := .agg (encN zNd)) (.agg (.cons (.refl _) (.cons (.refl _) (.cons (.refl _) (.cons (.refl _) (.cons .nil .nil)))))) (σ0 := σ.put id (.box (encC (failC c 2)))) (.inr rfl) (by rw [hnx]; exact Nat.le_refl _) (hwf2 _) (((Ext.refl _).new _).sub (hwf2 _)) (resD_cellS rfl (by simp [St.obj_new, St.next_put]; rfl) rfl resD_nil) ⟨by simp, trivial⟩ ⟨trivial, trivial, trivial, trivial, ⟨trivial, trivial⟩, trivial⟩ ⟨by rw [ht], by rw [ht]⟩
  | true =>
    refine hgo_sound 60 ?_
    simp -implicitDefEqProofs (maxSteps := 1000000) only [simpS, ↓condJ_true, ↓condJ_false, ↓reduceIte, Nat.reduceEqDiff, Nat.reduceLT, Nat.reduceLeDiff, reduceCtorEq, Nat.reduceAdd, Nat.reduceSub, noneS, listS, implies_true, forall_const, ne_eq]
    refine hx_call (f := .fn 15) rfl (by rw [hP]; exact hcallD_func (left_calls id c hc _ (by simp -implicitDefEqProofs (maxSteps := 1000000) only [simpS, ↓condJ_true, ↓condJ_false, ↓reduceIte, Nat.reduceEqDiff, Nat.reduceLT, Nat.reduceLeDiff, reduceCtorEq, Nat.reduceAdd, Nat.reduceSub, noneS, listS, implies_true, forall_const, ne_eq, hn0]; exact ho))) ?_
    rintro _ σ2 ⟨rfl, h⟩
    subst σ2
    by_cases hl : leftC c = 0
    · have e0 : ((leftC c : Int) == 0) = true := by rw [hl]; rfl
      refine hgo_sound 60 ?_
      simp -implicitDefEqProofs (maxSteps := 1000000) only [simpS, ↓condJ_true, ↓condJ_false, ↓reduceIte, Nat.reduceEqDiff, Nat.reduceLT, Nat.reduceLeDiff, reduceCtorEq, Nat.reduceAdd, Nat.reduceSub, noneS, listS, implies_true, forall_const, ne_eq, e0]
      refine hx_call (f := .fn 12) rfl (by rw [hP]; exact hcallD_func (fail_calls id c hc 2 _ (by simp -implicitDefEqProofs (maxSteps := 1000000) only [simpS, ↓condJ_true, ↓condJ_false, ↓reduceIte, Nat.reduceEqDiff, Nat.reduceLT, Nat.reduceLeDiff, reduceCtorEq, Nat.reduceAdd, Nat.reduceSub, noneS, listS, implies_true, forall_const, ne_eq, hn0]; exact ho))) ?_
      rintro _ σ2 ⟨rfl, rfl⟩
      refine hgo_sound 60 ?_
      simp -implicitDefEqProofs (maxSteps := 1000000) only [simpS, ↓condJ_true, ↓condJ_false, ↓reduceIte, Nat.reduceEqDiff, Nat.reduceLT, Nat.reduceLeDiff, reduceCtorEq, Nat.reduceAdd, Nat.reduceSub, noneS, listS, implies_true, forall_const, ne_eq, hn0, hn0']
      have ht : takeC c true = (failC c 2, zNd) := by unfold takeC; rw [if_neg (fun h => h.2 hl)]
      refine fpost_wk (ds := [.agg [.int .i64 0, .str ⟨#[]⟩, .str ⟨#[]⟩, .int .i64 0, .slice .nil 0 []]]) (d := .agg (encN zNd)) (.agg (.cons (.refl _) (.cons (.refl _) (.cons (.refl _) (.cons (.refl _) (.cons .nil .nil)))))) (σ0 := σ.put id (.box (encC (failC c 2)))) (.inr rfl) (by rw [hnx]; exact Nat.le_refl _) (hwf2 _) (((Ext.refl _).new _).sub (hwf2 _)) (resD_cellS rfl (by simp [St.obj_new, St.next_put]; rfl) rfl resD_nil) ⟨by simp, trivial⟩ ⟨trivial, trivial, trivial, trivial, ⟨trivial, trivial⟩, trivial⟩ ⟨by rw [ht], by rw [ht]⟩
    · have e0 : ((leftC c : Int) == 0) = false := by simp; omega
      obtain ⟨he, hj⟩ := leftC_lt (c := c) (j := 0) (by omega)
      have hg := encTk_get c.L c.n hj
      have hlt : (c.n : Int) < (c.L.length : Int) := by omega
      have hgd : c.L.getD c.n ⟨0, 0, 0⟩ = c.L[c.n] := by simp [List.getD, show c.n < c.L.length from hj]
      have hx := hc.in_ c.L[c.n] (List.getElem_mem _)
      have hlf := hc.lastf c.L[c.n] (by simp [show c.n < c.L.length from hj])
      have ht : takeC c true = ({ c with n := c.n + 1, la := (c.L[c.n]).t }, .mk 1 (c.s.extract c.la (c.L[c.n]).f) (textT c.s (c.L[c.n])) ((c.L[c.n]).f : Int) []) := by unfold takeC; rw [if_pos ⟨rfl, hl⟩, hgd]
      generalize c.L[c.n] = x at *
      have p1 : (x.f : Int) ≤ (c.s.size : Int) := by omega
      have p2 : (c.la : Int) ≤ (x.f : Int) := by omega
      refine hgo_sound 60 ?_
      simp -implicitDefEqProofs (maxSteps := 1000000) only [simpS, ↓condJ_true, ↓condJ_false, ↓reduceIte, Nat.reduceEqDiff, Nat.reduceLT, Nat.reduceLeDiff, reduceCtorEq, Nat.reduceAdd, Nat.reduceSub, noneS, listS, implies_true, forall_const, ne_eq, e0]
      refine hx_drawgo 3 ?_
      simp -implicitDefEqProofs (maxSteps := 100000000) only [drawS, listS, List.getElem?_cons_zero, List.getElem?_cons_succ, List.getElem?_nil, simpS, ↓condJ_true, ↓condJ_false, ↓reduceIte, Nat.reduceEqDiff, Nat.reduceLT, Nat.reduceLeDiff, reduceCtorEq, Nat.reduceAdd, Nat.reduceSub, noneS, listS, implies_true, forall_const, ne_eq, hnt', ho, hn0, hn1, hn0', hn1', encTk_length, hg, hlt, Int.toNat_natCast, Int.natCast_nonneg]
      refine hgo_sound 60 ?_
      simp -implicitDefEqProofs (maxSteps := 1000000) only [simpS, ↓condJ_true, ↓condJ_false, ↓reduceIte, Nat.reduceEqDiff, Nat.reduceLT, Nat.reduceLeDiff, reduceCtorEq, Nat.reduceAdd, Nat.reduceSub, noneS, listS, implies_true, forall_const, ne_eq]
      refine hx_drawK [.ptr id 0, .ptr id 0, .ptr id 0, .str c.s, .ptr id 0, .ptr id 0, .ptr id 3, .int .i64 (c.la : Int), .ptr (σ.next + 1) 1, .int .i64 (x.f : Int), .str (c.s.extract c.la x.f), .agg (encK3 x), .ptr id 0, .ptr id 0, .ptr id 0, .str c.s, .str (textT c.s x), .ptr (σ.next + 1) 1, .int .i64 (x.f : Int), .agg (encN (.mk 1 (c.s.extract c.la x.f) (textT c.s x) (x.f : Int) [])), .ptr (σ.next + 2) 0, .undef]
        (drS ((σ.new (.box [.int .i64 0, .str ⟨#[]⟩, .str ⟨#[]⟩, .int .i64 0, .slice .nil 0 []])).new (.box (encK3 x))) (((σ.new (.box [.int .i64 0, .str ⟨#[]⟩, .str ⟨#[]⟩, .int .i64 0, .slice .nil 0 []])).new (.box (encK3 x))).new (.box [.int .i64 0, .str ⟨#[]⟩, .str ⟨#[]⟩, .int .i64 0, .slice .nil 0 []])) (((σ.new (.box [.int .i64 0, .str ⟨#[]⟩, .str ⟨#[]⟩, .int .i64 0, .slice .nil 0 []])).new (.box (encK3 x))).new (.box (encN (.mk 1 (c.s.extract c.la x.f) (textT c.s x) (x.f : Int) [])))) 20 21)
        (by rw [hnt']; rfl) (drS_start _ _ _ _ _) ?_ ?_
      · intro L hC
        have o0 := drS_all (L := L) (a := 20) (b := 21) (S0 := (σ.new (.box [.int .i64 0, .str ⟨#[]⟩, .str ⟨#[]⟩, .int .i64 0, .slice .nil 0 []])).new (.box (encK3 x))) (S1 := ((σ.new (.box [.int .i64 0, .str ⟨#[]⟩, .str ⟨#[]⟩, .int .i64 0, .slice .nil 0 []])).new (.box (encK3 x))).new (.box [.int .i64 0, .str ⟨#[]⟩, .str ⟨#[]⟩, .int .i64 0, .slice .nil 0 []])) (S2 := ((σ.new (.box [.int .i64 0, .str ⟨#[]⟩, .str ⟨#[]⟩, .int .i64 0, .slice .nil 0 []])).new (.box (encK3 x))).new (.box (encN (.mk 1 (c.s.extract c.la x.f) (textT c.s x) (x.f : Int) [])))) (o := some (.box (encC c))) (id := id)
          (by simp [St.obj_new, St.next_new, hn0, hn1, ho]) (by simp [St.obj_new, St.next_new, hn0, hn1, hn2, ho]) (by simp [St.obj_new, St.next_new, hn0, hn1, hn2, ho])
        have o1 := drS_all (L := L) (a := 20) (b := 21) (S0 := (σ.new (.box [.int .i64 0, .str ⟨#[]⟩, .str ⟨#[]⟩, .int .i64 0, .slice .nil 0 []])).new (.box (encK3 x))) (S1 := ((σ.new (.box [.int .i64 0, .str ⟨#[]⟩, .str ⟨#[]⟩, .int .i64 0, .slice .nil 0 []])).new (.box (encK3 x))).new (.box [.int .i64 0, .str ⟨#[]⟩, .str ⟨#[]⟩, .int .i64 0, .slice .nil 0 []])) (S2 := ((σ.new (.box [.int .i64 0, .str ⟨#[]⟩, .str ⟨#[]⟩, .int .i64 0, .slice .nil 0 []])).new (.box (encK3 x))).new (.box (encN (.mk 1 (c.s.extract c.la x.f) (textT c.s x) (x.f : Int) [])))) (o := some (.box (encK3 x))) (id := σ.next + 1)
          (by simp [St.obj_new, St.next_new]) (by simp [St.obj_new, St.next_new]) (by simp [St.obj_new, St.next_new])
        simp only [allD_nil, allD_cons]
        refine ⟨fun hi ha => ?_, fun hi ha => ?_, fun hi ha => ?_, fun hi ha => ?_, fun hi ha => ?_, fun hi ha => ?_, fun hi ha => ?_, fun hi ha => ?_, fun hi ha => ?_, fun hi ha => ?_, fun hi ha => ?_, fun hi ha => ?_, fun hi ha => ?_, fun hi ha => ?_, fun hi ha => ?_, fun hi ha => ?_, fun hi ha => ?_, fun hi ha => ?_, fun hi ha => ?_, fun hi ha => ?_, fun hi ha => ?_, fun hi ha => ?_, trivial⟩
        · simp -implicitDefEqProofs (maxSteps := 3000000) only [dsetS, listS, simpS, ↓condJ_true, ↓condJ_false, ↓reduceIte, Nat.reduceEqDiff, Nat.reduceLT, Nat.reduceLeDiff, reduceCtorEq, Nat.reduceAdd, Nat.reduceSub, noneS, listS, implies_true, forall_const, ne_eq, hnt', o0, o1, valV, List.getD_cons_zero, List.getD_cons_succ, p1, p2, Int.toNat_natCast, Int.natCast_nonneg]
          first | exact (drS_upd (by decide) (by decide)).symm | exact ⟨rfl, (drS_upd (by decide) (by decide)).symm⟩
        · simp -implicitDefEqProofs (maxSteps := 3000000) only [dsetS, listS, simpS, ↓condJ_true, ↓condJ_false, ↓reduceIte, Nat.reduceEqDiff, Nat.reduceLT, Nat.reduceLeDiff, reduceCtorEq, Nat.reduceAdd, Nat.reduceSub, noneS, listS, implies_true, forall_const, ne_eq, hnt', o0, o1, valV, List.getD_cons_zero, List.getD_cons_succ, p1, p2, Int.toNat_natCast, Int.natCast_nonneg]
          first | exact (drS_upd (by decide) (by decide)).symm | exact ⟨rfl, (drS_upd (by decide) (by decide)).symm⟩
        · simp -implicitDefEqProofs (maxSteps := 3000000) only [dsetS, listS, simpS, ↓condJ_true, ↓condJ_false, ↓reduceIte, Nat.reduceEqDiff, Nat.reduceLT, Nat.reduceLeDiff, reduceCtorEq, Nat.reduceAdd, Nat.reduceSub, noneS, listS, implies_true, forall_const, ne_eq, hnt', o0, o1, valV, List.getD_cons_zero, List.getD_cons_succ, p1, p2, Int.toNat_natCast, Int.natCast_nonneg]
          first | exact (drS_upd (by decide) (by decide)).symm | exact ⟨rfl, (drS_upd (by decide) (by decide)).symm⟩
        · simp -implicitDefEqProofs (maxSteps := 3000000) only [dsetS, listS, simpS, ↓condJ_true, ↓condJ_false, ↓reduceIte, Nat.reduceEqDiff, Nat.reduceLT, Nat.reduceLeDiff, reduceCtorEq, Nat.reduceAdd, Nat.reduceSub, noneS, listS, implies_true, forall_const, ne_eq, hnt', o0, o1, valV, List.getD_cons_zero, List.getD_cons_succ, p1, p2, Int.toNat_natCast, Int.natCast_nonneg]
          first | exact (drS_upd (by decide) (by decide)).symm | exact ⟨rfl, (drS_upd (by decide) (by decide)).symm⟩
        · simp -implicitDefEqProofs (maxSteps := 3000000) only [dsetS, listS, simpS, ↓condJ_true, ↓condJ_false, ↓reduceIte, Nat.reduceEqDiff, Nat.reduceLT, Nat.reduceLeDiff, reduceCtorEq, Nat.reduceAdd, Nat.reduceSub, noneS, listS, implies_true, forall_const, ne_eq, hnt', o0, o1, valV, List.getD_cons_zero, List.getD_cons_succ, p1, p2, Int.toNat_natCast, Int.natCast_nonneg]
          first | exact (drS_upd (by decide) (by decide)).symm | exact ⟨rfl, (drS_upd (by decide) (by decide)).symm⟩
        · simp -implicitDefEqProofs (maxSteps := 3000000) only [dsetS, listS, simpS, ↓condJ_true, ↓condJ_false, ↓reduceIte, Nat.reduceEqDiff, Nat.reduceLT, Nat.reduceLeDiff, reduceCtorEq, Nat.reduceAdd, Nat.reduceSub, noneS, listS, implies_true, forall_const, ne_eq, hnt', o0, o1, valV, List.getD_cons_zero, List.getD_cons_succ, p1, p2, Int.toNat_natCast, Int.natCast_nonneg]
          first | exact (drS_upd (by decide) (by decide)).symm | exact ⟨rfl, (drS_upd (by decide) (by decide)).symm⟩
        · simp -implicitDefEqProofs (maxSteps := 3000000) only [dsetS, listS, simpS, ↓condJ_true, ↓condJ_false, ↓reduceIte, Nat.reduceEqDiff, Nat.reduceLT, Nat.reduceLeDiff, reduceCtorEq, Nat.reduceAdd, Nat.reduceSub, noneS, listS, implies_true, forall_const, ne_eq, hnt', o0, o1, valV, List.getD_cons_zero, List.getD_cons_succ, p1, p2, Int.toNat_natCast, Int.natCast_nonneg]
          first | exact (drS_upd (by decide) (by decide)).symm | exact ⟨rfl, (drS_upd (by decide) (by decide)).symm⟩
        · simp -implicitDefEqProofs (maxSteps := 3000000) only [dsetS, listS, simpS, ↓condJ_true, ↓condJ_false, ↓reduceIte, Nat.reduceEqDiff, Nat.reduceLT, Nat.reduceLeDiff, reduceCtorEq, Nat.reduceAdd, Nat.reduceSub, noneS, listS, implies_true, forall_const, ne_eq, hnt', o0, o1, valV, List.getD_cons_zero, List.getD_cons_succ, p1, p2, Int.toNat_natCast, Int.natCast_nonneg]
          first | exact (drS_upd (by decide) (by decide)).symm | exact ⟨rfl, (drS_upd (by decide) (by decide)).symm⟩
        · simp -implicitDefEqProofs (maxSteps := 3000000) only [dsetS, listS, simpS, ↓condJ_true, ↓condJ_false, ↓reduceIte, Nat.reduceEqDiff, Nat.reduceLT, Nat.reduceLeDiff, reduceCtorEq, Nat.reduceAdd, Nat.reduceSub, noneS, listS, implies_true, forall_const, ne_eq, hnt', o0, o1, valV, List.getD_cons_zero, List.getD_cons_succ, p1, p2, Int.toNat_natCast, Int.natCast_nonneg]
          first | exact (drS_upd (by decide) (by decide)).symm | exact ⟨rfl, (drS_upd (by decide) (by decide)).symm⟩
        · simp -implicitDefEqProofs (maxSteps := 3000000) only [dsetS, listS, simpS, ↓condJ_true, ↓condJ_false, ↓reduceIte, Nat.reduceEqDiff, Nat.reduceLT, Nat.reduceLeDiff, reduceCtorEq, Nat.reduceAdd, Nat.reduceSub, noneS, listS, implies_true, forall_const, ne_eq, hnt', o0, o1, valV, List.getD_cons_zero, List.getD_cons_succ, p1, p2, Int.toNat_natCast, Int.natCast_nonneg]
          first | exact (drS_upd (by decide) (by decide)).symm | exact ⟨rfl, (drS_upd (by decide) (by decide)).symm⟩
        · simp -implicitDefEqProofs (maxSteps := 3000000) only [dsetS, listS, simpS, ↓condJ_true, ↓condJ_false, ↓reduceIte, Nat.reduceEqDiff, Nat.reduceLT, Nat.reduceLeDiff, reduceCtorEq, Nat.reduceAdd, Nat.reduceSub, noneS, listS, implies_true, forall_const, ne_eq, hnt', o0, o1, valV, List.getD_cons_zero, List.getD_cons_succ, p1, p2, Int.toNat_natCast, Int.natCast_nonneg]
          first | exact (drS_upd (by decide) (by decide)).symm | exact ⟨rfl, (drS_upd (by decide) (by decide)).symm⟩
        · simp -implicitDefEqProofs (maxSteps := 3000000) only [dsetS, listS, simpS, ↓condJ_true, ↓condJ_false, ↓reduceIte, Nat.reduceEqDiff, Nat.reduceLT, Nat.reduceLeDiff, reduceCtorEq, Nat.reduceAdd, Nat.reduceSub, noneS, listS, implies_true, forall_const, ne_eq, hnt', o0, o1, valV, List.getD_cons_zero, List.getD_cons_succ, p1, p2, Int.toNat_natCast, Int.natCast_nonneg]
          first | exact (drS_upd (by decide) (by decide)).symm | exact ⟨rfl, (drS_upd (by decide) (by decide)).symm⟩
        · simp -implicitDefEqProofs (maxSteps := 3000000) only [dsetS, listS, simpS, ↓condJ_true, ↓condJ_false, ↓reduceIte, Nat.reduceEqDiff, Nat.reduceLT, Nat.reduceLeDiff, reduceCtorEq, Nat.reduceAdd, Nat.reduceSub, noneS, listS, implies_true, forall_const, ne_eq, hnt', o0, o1, valV, List.getD_cons_zero, List.getD_cons_succ, p1, p2, Int.toNat_natCast, Int.natCast_nonneg]
          first | exact (drS_upd (by decide) (by decide)).symm | exact ⟨rfl, (drS_upd (by decide) (by decide)).symm⟩
        · simp -implicitDefEqProofs (maxSteps := 3000000) only [dsetS, listS, simpS, ↓condJ_true, ↓condJ_false, ↓reduceIte, Nat.reduceEqDiff, Nat.reduceLT, Nat.reduceLeDiff, reduceCtorEq, Nat.reduceAdd, Nat.reduceSub, noneS, listS, implies_true, forall_const, ne_eq, hnt', o0, o1, valV, List.getD_cons_zero, List.getD_cons_succ, p1, p2, Int.toNat_natCast, Int.natCast_nonneg]
          first | exact (drS_upd (by decide) (by decide)).symm | exact ⟨rfl, (drS_upd (by decide) (by decide)).symm⟩
        · simp -implicitDefEqProofs (maxSteps := 3000000) only [dsetS, listS, simpS, ↓condJ_true, ↓condJ_false, ↓reduceIte, Nat.reduceEqDiff, Nat.reduceLT, Nat.reduceLeDiff, reduceCtorEq, Nat.reduceAdd, Nat.reduceSub, noneS, listS, implies_true, forall_const, ne_eq, hnt', o0, o1, valV, List.getD_cons_zero, List.getD_cons_succ, p1, p2, Int.toNat_natCast, Int.natCast_nonneg]
          first | exact (drS_upd (by decide) (by decide)).symm | exact ⟨rfl, (drS_upd (by decide) (by decide)).symm⟩
        · simp -implicitDefEqProofs (maxSteps := 3000000) only [dsetS, listS, simpS, ↓condJ_true, ↓condJ_false, ↓reduceIte, Nat.reduceEqDiff, Nat.reduceLT, Nat.reduceLeDiff, reduceCtorEq, Nat.reduceAdd, Nat.reduceSub, noneS, listS, implies_true, forall_const, ne_eq, hnt', o0, o1, valV, List.getD_cons_zero, List.getD_cons_succ, p1, p2, Int.toNat_natCast, Int.natCast_nonneg]
          first | exact (drS_upd (by decide) (by decide)).symm | exact ⟨rfl, (drS_upd (by decide) (by decide)).symm⟩
        · simp -implicitDefEqProofs (maxSteps := 3000000) only [dsetS, listS, simpS, ↓condJ_true, ↓condJ_false, ↓reduceIte, Nat.reduceEqDiff, Nat.reduceLT, Nat.reduceLeDiff, reduceCtorEq, Nat.reduceAdd, Nat.reduceSub, noneS, listS, implies_true, forall_const, ne_eq, hnt', o0, o1, valV, List.getD_cons_zero, List.getD_cons_succ, p1, p2, Int.toNat_natCast, Int.natCast_nonneg]
          refine ⟨_, _, _, rfl, by rw [hP]; exact hcallD_func (ttext_calls c.s x hx.1 hx.2 _), ?_⟩
          rintro _ σ2 ⟨rfl, h⟩
          subst σ2
          first | exact (drS_upd (by decide) (by decide)).symm | exact ⟨rfl, (drS_upd (by decide) (by decide)).symm⟩
        · simp -implicitDefEqProofs (maxSteps := 3000000) only [dsetS, listS, simpS, ↓condJ_true, ↓condJ_false, ↓reduceIte, Nat.reduceEqDiff, Nat.reduceLT, Nat.reduceLeDiff, reduceCtorEq, Nat.reduceAdd, Nat.reduceSub, noneS, listS, implies_true, forall_const, ne_eq, hnt', o0, o1, valV, List.getD_cons_zero, List.getD_cons_succ, p1, p2, Int.toNat_natCast, Int.natCast_nonneg]
          first | exact (drS_upd (by decide) (by decide)).symm | exact ⟨rfl, (drS_upd (by decide) (by decide)).symm⟩
        · simp -implicitDefEqProofs (maxSteps := 3000000) only [dsetS, listS, simpS, ↓condJ_true, ↓condJ_false, ↓reduceIte, Nat.reduceEqDiff, Nat.reduceLT, Nat.reduceLeDiff, reduceCtorEq, Nat.reduceAdd, Nat.reduceSub, noneS, listS, implies_true, forall_const, ne_eq, hnt', o0, o1, valV, List.getD_cons_zero, List.getD_cons_succ, p1, p2, Int.toNat_natCast, Int.natCast_nonneg]
          first | exact (drS_upd (by decide) (by decide)).symm | exact ⟨rfl, (drS_upd (by decide) (by decide)).symm⟩
        · simp -implicitDefEqProofs (maxSteps := 3000000) only [dsetS, listS, simpS, ↓condJ_true, ↓condJ_false, ↓reduceIte, Nat.reduceEqDiff, Nat.reduceLT, Nat.reduceLeDiff, reduceCtorEq, Nat.reduceAdd, Nat.reduceSub, noneS, listS, implies_true, forall_const, ne_eq, hnt', o0, o1, valV, List.getD_cons_zero, List.getD_cons_succ, p1, p2, Int.toNat_natCast, Int.natCast_nonneg]
          refine ⟨_, _, _, rfl, by rw [hP]; exact hcallD_func (token_calls (c.s.extract c.la x.f) (textT c.s x) (x.f : Int) _), ?_⟩
          rintro _ σ2 ⟨rfl, h⟩
          subst σ2
          first | exact (drS_upd (by decide) (by decide)).symm | exact ⟨rfl, (drS_upd (by decide) (by decide)).symm⟩
        · have hb : L 21 = false := by
            cases hb : L 21
            · rfl
            · have := hC 21 _ rfl hb 20 (by decide)
              rw [this] at hi
              cases hi
          rw [drS_0 hi hb]
          simp -implicitDefEqProofs (maxSteps := 3000000) only [dsetS, listS, simpS, ↓condJ_true, ↓condJ_false, ↓reduceIte, Nat.reduceEqDiff, Nat.reduceLT, Nat.reduceLeDiff, reduceCtorEq, Nat.reduceAdd, Nat.reduceSub, noneS, listS, implies_true, forall_const, ne_eq, hnt', o0, o1, valV, List.getD_cons_zero, List.getD_cons_succ, p1, p2, Int.toNat_natCast, Int.natCast_nonneg]
          first | exact (drS_a hb (by decide)).symm | exact ⟨rfl, (drS_a hb (by decide)).symm⟩
        · have hb : L 20 = true := ha 20 (by decide)
          rw [drS_1 hb hi]
          simp -implicitDefEqProofs (maxSteps := 3000000) only [dsetS, listS, simpS, ↓condJ_true, ↓condJ_false, ↓reduceIte, Nat.reduceEqDiff, Nat.reduceLT, Nat.reduceLeDiff, reduceCtorEq, Nat.reduceAdd, Nat.reduceSub, noneS, listS, implies_true, forall_const, ne_eq, hnt', o0, o1, valV, List.getD_cons_zero, List.getD_cons_succ, p1, p2, Int.toNat_natCast, Int.natCast_nonneg, encN_length]
          first | exact drS_b.symm | exact ⟨rfl, drS_b.symm⟩
      · intro L hall
        have hs : ∀ S0 S1 S2 : St, drS S0 S1 S2 20 21 L = S2 := fun _ _ _ => by
          unfold drS
          rw [if_pos (hall 21 (by decide))]
        rw [hs]
        simp -implicitDefEqProofs (maxSteps := 3000000) only [dsetS, listS, simpS, ↓condJ_true, ↓condJ_false, ↓reduceIte, Nat.reduceEqDiff, Nat.reduceLT, Nat.reduceLeDiff, reduceCtorEq, Nat.reduceAdd, Nat.reduceSub, noneS, listS, implies_true, forall_const, ne_eq, hnt', valV, List.getD_cons_zero, List.getD_cons_succ]
        refine hgo_sound 60 ?_
        simp -implicitDefEqProofs (maxSteps := 1000000) only [simpS, ↓condJ_true, ↓condJ_false, ↓reduceIte, Nat.reduceEqDiff, Nat.reduceLT, Nat.reduceLeDiff, reduceCtorEq, Nat.reduceAdd, Nat.reduceSub, noneS, listS, implies_true, forall_const, ne_eq]
        have hwn : IntKind.i64.wrap ((c.n : Int) + 1) = ((c.n + 1 : Nat) : Int) := by
          have := hc.len; have := hc.small
          rw [IntWalk.i64_in _ (by omega)]; rfl
        refine hx_drawgo 4 ?_
        simp -implicitDefEqProofs (maxSteps := 100000000) only [drawS, listS, List.getElem?_cons_zero, List.getElem?_cons_succ, List.getElem?_nil, simpS, ↓condJ_true, ↓condJ_false, ↓reduceIte, Nat.reduceEqDiff, Nat.reduceLT, Nat.reduceLeDiff, reduceCtorEq, Nat.reduceAdd, Nat.reduceSub, noneS, listS, implies_true, forall_const, ne_eq, hnt', ho, hn0, hn1, hn2, hn0', hn1', hn2', hwn]
        refine hgo_sound 60 ?_
        simp -implicitDefEqProofs (maxSteps := 1000000) only [simpS, ↓condJ_true, ↓condJ_false, ↓reduceIte, Nat.reduceEqDiff, Nat.reduceLT, Nat.reduceLeDiff, reduceCtorEq, Nat.reduceAdd, Nat.reduceSub, noneS, listS, implies_true, forall_const, ne_eq, ho, hn0, hn1, hn2, hn0', hn1', hn2', encN_length]
        rw [ht]
        exact fpost_pure (σ0 := σ.put id (.box (encC { c with n := c.n + 1, la := x.t }))) (ds := [.agg (encN (.mk 1 (c.s.extract c.la x.f) (textT c.s x) (x.f : Int) []))]) (.inr rfl) (by rw [hnx]; exact Nat.le_refl _) (hwf2 _) (((((Ext.refl _).new _).new _).new _).sub (hwf2 _)) (resD_cellS (ot := none) rfl (by simp [St.obj_new, St.next_new, St.next_put]) rfl resD_nil) ⟨by rw [encN_length]; omega, trivial⟩ (encN_lt _ _) ⟨rfl, rfl⟩

def anyC (c : Cu) (k : Int) : Cu × Nd := takeC c (((peekC c 0).1 : Int) == k)
def wantC (c : Cu) (x : ByteArray) : Cu × Nd := takeC c (isC c 0 x)

theorem cany_calls (id : Nat) (c : Cu) (hc : c.ok) (k : Int) (σ : St) (ho : σ.obj id = some (.box (encC c))) : HCalls Tryd.prog 18 [.ptr id 0, .int .i64 k] σ (fun d σ' => d = .agg (encN (anyC c k).2) ∧ σ' = σ.put id (.box (encC (anyC c k).1))) := by
  refine hcalls_body (fn := Tryd.f18) rfl c18 (by simp [h18]) (by simp [h18, Tryd.f18]) ?_
  intro M hP hr hnt hnx hwf hlt
  simp only [h18, argEnv]
  have hnt' : M.nt = 17 := hnt
  have hid := (hwf.obj _ _ ho).1
  have hn0 : ¬ id = σ.next := by omega
  have hn0' : ¬ σ.next = id := by omega
  have hwf2 : ∀ c', (σ.put id (.box (encC c'))).wf := fun c' => hwf.put hid (encC_lt c' _)
  refine hgo_sound 60 ?_
  simp -implicitDefEqProofs (maxSteps := 1000000) only [simpS, ↓condJ_true, ↓condJ_false, ↓reduceIte, Nat.reduceEqDiff, Nat.reduceLT, Nat.reduceLeDiff, reduceCtorEq, Nat.reduceAdd, Nat.reduceSub, noneS, listS, implies_true, forall_const, ne_eq]
  refine hx_call (f := .fn 13) rfl (by rw [hP]; exact hcallD_func (peek_calls id c hc 0 _ (by simp -implicitDefEqProofs (maxSteps := 1000000) only [simpS, ↓condJ_true, ↓condJ_false, ↓reduceIte, Nat.reduceEqDiff, Nat.reduceLT, Nat.reduceLeDiff, reduceCtorEq, Nat.reduceAdd, Nat.reduceSub, noneS, listS, implies_true, forall_const, ne_eq, hn0]; exact ho))) ?_
  rintro _ σ2 ⟨rfl, h⟩
  subst σ2
  refine hgo_sound 60 ?_
  simp -implicitDefEqProofs (maxSteps := 1000000) only [simpS, ↓condJ_true, ↓condJ_false, ↓reduceIte, Nat.reduceEqDiff, Nat.reduceLT, Nat.reduceLeDiff, reduceCtorEq, Nat.reduceAdd, Nat.reduceSub, noneS, listS, implies_true, forall_const, ne_eq]
  refine hx_call (f := .fn 26) rfl (by rw [hP]; exact hcallD_func (take_calls id c hc (((peekC c 0).1 : Int) == k) _ (by simp -implicitDefEqProofs (maxSteps := 1000000) only [simpS, ↓condJ_true, ↓condJ_false, ↓reduceIte, Nat.reduceEqDiff, Nat.reduceLT, Nat.reduceLeDiff, reduceCtorEq, Nat.reduceAdd, Nat.reduceSub, noneS, listS, implies_true, forall_const, ne_eq, hn0]; exact ho))) ?_
  rintro _ σ2 ⟨rfl, rfl⟩
  refine hgo_sound 60 ?_
  simp -implicitDefEqProofs (maxSteps := 1000000) only [simpS, ↓condJ_true, ↓condJ_false, ↓reduceIte, Nat.reduceEqDiff, Nat.reduceLT, Nat.reduceLeDiff, reduceCtorEq, Nat.reduceAdd, Nat.reduceSub, noneS, listS, implies_true, forall_const, ne_eq, hn0, hn0', encN_length]
  exact fpost_pure (σ0 := σ.put id (.box (encC (anyC c k).1))) (ds := [.agg (encN (anyC c k).2)]) (.inr rfl) (by rw [hnx]; exact Nat.le_refl _) (hwf2 _) (((Ext.refl _).new _).sub (hwf2 _)) (resD_cellS (ot := none) rfl (by simp [St.obj_new, St.next_new, St.next_put, anyC]) (encN_length _) resD_nil) ⟨by rw [encN_length]; omega, trivial⟩ (encN_lt _ _) ⟨rfl, rfl⟩

theorem cwant_calls (id : Nat) (c : Cu) (hc : c.ok) (x : ByteArray) (σ : St) (ho : σ.obj id = some (.box (encC c))) : HCalls Tryd.prog 19 [.ptr id 0, .str x] σ (fun d σ' => d = .agg (encN (wantC c x).2) ∧ σ' = σ.put id (.box (encC (wantC c x).1))) := by
  refine hcalls_body (fn := Tryd.f19) rfl c19 (by simp [h19]) (by simp [h19, Tryd.f19]) ?_
  intro M hP hr hnt hnx hwf hlt
  simp only [h19, argEnv]
  have hnt' : M.nt = 10 := hnt
  have hid := (hwf.obj _ _ ho).1
  have hn0 : ¬ id = σ.next := by omega
  have hn0' : ¬ σ.next = id := by omega
  have hwf2 : ∀ c', (σ.put id (.box (encC c'))).wf := fun c' => hwf.put hid (encC_lt c' _)
  refine hgo_sound 60 ?_
  simp -implicitDefEqProofs (maxSteps := 1000000) only [simpS, ↓condJ_true, ↓condJ_false, ↓reduceIte, Nat.reduceEqDiff, Nat.reduceLT, Nat.reduceLeDiff, reduceCtorEq, Nat.reduceAdd, Nat.reduceSub, noneS, listS, implies_true, forall_const, ne_eq]
  refine hx_call (f := .fn 17) rfl (by rw [hP]; exact hcallD_func (cis_calls id c hc 0 x _ (by simp -implicitDefEqProofs (maxSteps := 1000000) only [simpS, ↓condJ_true, ↓condJ_false, ↓reduceIte, Nat.reduceEqDiff, Nat.reduceLT, Nat.reduceLeDiff, reduceCtorEq, Nat.reduceAdd, Nat.reduceSub, noneS, listS, implies_true, forall_const, ne_eq, hn0]; exact ho))) ?_
  rintro _ σ2 ⟨rfl, h⟩
  subst σ2
  refine hgo_sound 60 ?_
  simp -implicitDefEqProofs (maxSteps := 1000000) only [simpS, ↓condJ_true, ↓condJ_false, ↓reduceIte, Nat.reduceEqDiff, Nat.reduceLT, Nat.reduceLeDiff, reduceCtorEq, Nat.reduceAdd, Nat.reduceSub, noneS, listS, implies_true, forall_const, ne_eq]
  refine hx_call (f := .fn 26) rfl (by rw [hP]; exact hcallD_func (take_calls id c hc (isC c 0 x) _ (by simp -implicitDefEqProofs (maxSteps := 1000000) only [simpS, ↓condJ_true, ↓condJ_false, ↓reduceIte, Nat.reduceEqDiff, Nat.reduceLT, Nat.reduceLeDiff, reduceCtorEq, Nat.reduceAdd, Nat.reduceSub, noneS, listS, implies_true, forall_const, ne_eq, hn0]; exact ho))) ?_
  rintro _ σ2 ⟨rfl, rfl⟩
  refine hgo_sound 60 ?_
  simp -implicitDefEqProofs (maxSteps := 1000000) only [simpS, ↓condJ_true, ↓condJ_false, ↓reduceIte, Nat.reduceEqDiff, Nat.reduceLT, Nat.reduceLeDiff, reduceCtorEq, Nat.reduceAdd, Nat.reduceSub, noneS, listS, implies_true, forall_const, ne_eq, hn0, hn0', encN_length]
  exact fpost_pure (σ0 := σ.put id (.box (encC (wantC c x).1))) (ds := [.agg (encN (wantC c x).2)]) (.inr rfl) (by rw [hnx]; exact Nat.le_refl _) (hwf2 _) (((Ext.refl _).new _).sub (hwf2 _)) (resD_cellS (ot := none) rfl (by simp [St.obj_new, St.next_new, St.next_put, wantC]) (encN_length _) resD_nil) ⟨by rw [encN_length]; omega, trivial⟩ (encN_lt _ _) ⟨rfl, rfl⟩

end Go.Hl
set_option linter.unusedSectionVars false
set_option linter.unusedVariables false
set_option linter.unusedSimpArgs false
set_option maxRecDepth 100000
namespace Go.Hl
open Go Go.Proofs Go.RowKit

def tiled : Nat → List Tk3 → Nat → Prop
  | a, [], e => a = e
  | a, x :: r, e => x.f = a ∧ a < x.t ∧ x.t ≤ e ∧ tiled x.t r e
theorem toks_tiled : ∀ (n : Nat) (l : List UInt8) (a : Nat), l.length ≤ n → tiled a (toks l a) (a + l.length)
  | 0, l, a, h => by
    have : l = [] := List.length_eq_zero_iff.1 (by omega)
    subst this
    rfl
  | n + 1, l, a, h => by
    by_cases hl : l = []
    · subst hl; rfl
    · have h1 := lexN_len l hl
      rw [toks_cons l a hl]
      have := toks_tiled n (l.drop (lexN l).2) (a + (lexN l).2) (by rw [List.length_drop]; omega)
      rw [List.length_drop, show a + (lexN l).2 + (l.length - (lexN l).2) = a + l.length by omega] at this
      exact ⟨rfl, by simp only; omega, by simp only; omega, this⟩
theorem tiledS (s : ByteArray) : tiled 0 (toks s.data.toList 0) s.size := by
  have := toks_tiled s.size s.data.toList 0 (by rw [len_list]; exact Nat.le_refl _)
  rwa [len_list, Nat.zero_add] at this

end Go.Hl
set_option linter.unusedSectionVars false
set_option linter.unusedVariables false
set_option linter.unusedSimpArgs false
set_option maxRecDepth 100000
namespace Go.Hl
open Go Go.Proofs Go.RowKit

def sortedT (l : List Tk3) : Prop := ∀ (i j : Nat) x y, l[i]? = some x → l[j]? = some y → i < j → x.t ≤ y.f

structure Cu.good (c : Cu) : Prop where
  ok : c.ok
  srt : sortedT c.L
  deep : c.dp ≤ 200
  at_ : c.at_ ≤ c.s.size
  er : c.er ≤ 15

theorem atC_le {c : Cu} (h : c.ok) : atC c ≤ c.s.size := by
  unfold atC
  split
  · exact Nat.le_refl _
  · rename_i h0
    obtain ⟨he, hj⟩ := leftC_lt (c := c) (j := 0) (by omega)
    have hgd : c.L.getD c.n ⟨0, 0, 0⟩ = c.L[c.n] := by simp [List.getD, show c.n < c.L.length from hj]
    rw [hgd]
    have := h.in_ c.L[c.n] (List.getElem_mem _)
    omega

theorem good_fail {c : Cu} (h : c.good) (e : Int) : (failC c e).good := by
  unfold failC
  split
  · refine ⟨⟨h.ok.small, h.ok.len, h.ok.in_, h.ok.next, h.ok.last, h.ok.lastf⟩, h.srt, h.deep, atC_le h.ok, ?_⟩
    simp only
    split <;> omega
  · exact h

theorem good_take {c : Cu} (h : c.good) (w : Bool) : (takeC c w).1.good := by
  unfold takeC
  split
  · rename_i hw
    obtain ⟨he, hj⟩ := leftC_lt (c := c) (j := 0) (by omega)
    have hj' : c.n < c.L.length := hj
    have hgd : c.L.getD c.n ⟨0, 0, 0⟩ = c.L[c.n] := by simp [List.getD, hj']
    rw [hgd]
    have hx := h.ok.in_ c.L[c.n] (List.getElem_mem _)
    exact ⟨⟨h.ok.small, h.ok.len, h.ok.in_, hj', hx.2, fun y hy => h.srt c.n (c.n + 1) _ y (by simp [hj']) hy (by omega)⟩, h.srt, h.deep, h.at_, h.er⟩
  · exact good_fail h 2

theorem tiled_from : ∀ {l : List Tk3} {a b : Nat}, tiled a l b → ∀ x ∈ l, a ≤ x.f
  | [], a, b, _, x, h => by cases h
  | y :: l, a, b, h, x, hx => by
    obtain ⟨h1, h2, h2b, h3⟩ := h
    rcases List.mem_cons.1 hx with rfl | hx
    · omega
    · have := tiled_from h3 x hx
      omega

theorem sorted_filter (p : Tk3 → Bool) : ∀ {l : List Tk3} {a b : Nat}, tiled a l b → sortedT (l.filter p)
  | [], a, b, _ => fun i j x y hx => by simp at hx
  | z :: l, a, b, h => by
    obtain ⟨h1, h2, h2b, h3⟩ := h
    have ih := sorted_filter p h3
    rw [List.filter_cons]
    split
    · intro i j x y hx hy hij
      cases j with
      | zero => omega
      | succ j =>
        rw [List.getElem?_cons_succ] at hy
        cases i with
        | zero =>
          simp only [List.getElem?_cons_zero, Option.some.injEq] at hx
          subst hx
          exact tiled_from h3 y (List.mem_filter.1 (List.mem_of_getElem? hy)).1
        | succ i =>
          rw [List.getElem?_cons_succ] at hx
          exact ih i j x y hx hy (by omega)
    · exact ih

def startC (s : ByteArray) : Cu := ⟨s, realsL (toks s.data.toList 0), 0, 0, 0, 0, 0⟩

theorem start_good {s : ByteArray} (hs : s.size ≤ 4000) : (startC s).good := by
  have ht := toks_tiled s.data.toList.length s.data.toList 0 (Nat.le_refl _)
  refine ⟨⟨hs, Nat.le_trans (realsL_le _) (toks_le s), fun x hx => ?_, Nat.zero_le _, Nat.zero_le _, fun _ _ => Nat.zero_le _⟩, sorted_filter _ ht, Nat.zero_le _, Nat.zero_le _, Nat.zero_le _⟩
  have := toksS s x ((List.mem_filter.1 hx).1)
  show _ ∧ _ ≤ s.size
  omega

theorem new_large (s : ByteArray) (hs : ¬ s.size ≤ 4000) (σ : St) : HCalls Tryd.prog 6 [.str s] σ (fun d σ' => d = .tuple [.nilp, .int .i64 4000, erV 4] ∧ σ' = σ) := by
  refine hcalls_body (fn := Tryd.f6) rfl c6 (by simp [h6]) (by simp [h6, Tryd.f6]) ?_
  intro M hP hr hnt hnx hwf hlt
  simp only [h6, argEnv]
  have hnt' : M.nt = 26 := hnt
  have d : decide ((s.size : Int) > 4000) = true := decide_eq_true (by omega)
  refine hgo_sound 60 ?_
  simp -implicitDefEqProofs (maxSteps := 1000000) only [simpS, ↓condJ_true, ↓condJ_false, ↓reduceIte, Nat.reduceEqDiff, Nat.reduceLT, Nat.reduceLeDiff, reduceCtorEq, Nat.reduceAdd, Nat.reduceSub, noneS, listS, implies_true, forall_const, ne_eq, d]
  exact fpost_pure (σ0 := σ) (.inr rfl) (by rw [hnx]; exact Nat.le_refl _) hwf (by first | exact Sub.refl σ | exact (((Ext.refl _).new _).sub hwf)) rfl trivial (by repeat' (first | trivial | apply And.intro)) ⟨rfl, rfl⟩

theorem new_bad (s : ByteArray) (hs : s.size ≤ 4000) (f : Nat) (hb : badAt (toks s.data.toList 0) = some f) (σ : St) (hg : GM σ) : HCalls Tryd.prog 6 [.str s] σ (fun d σ' => d = .tuple [.nilp, .int .i64 (f : Int), erV 2] ∧ σ' = σ) := by
  refine hcalls_body (fn := Tryd.f6) rfl c6 (by simp [h6]) (by simp [h6, Tryd.f6]) ?_
  intro M hP hr hnt hnx hwf hlt
  simp only [h6, argEnv]
  have hnt' : M.nt = 26 := hnt
  have d : decide ((s.size : Int) > 4000) = false := decide_eq_false (by omega)
  have hc := real_calls s (by omega) σ hg
  unfold realR realA realE at hc
  rw [hb] at hc
  refine hgo_sound 60 ?_
  simp -implicitDefEqProofs (maxSteps := 1000000) only [simpS, ↓condJ_true, ↓condJ_false, ↓reduceIte, Nat.reduceEqDiff, Nat.reduceLT, Nat.reduceLeDiff, reduceCtorEq, Nat.reduceAdd, Nat.reduceSub, noneS, listS, implies_true, forall_const, ne_eq, d]
  refine hx_call (f := .fn 23) rfl (by rw [hP]; exact hcallD_func (hc)) ?_
  rintro _ σ2 ⟨rfl, h⟩
  subst σ2
  have he2 : erD 2 = .iface 32 (.int .i64 2) := rfl
  simp only [he2]
  refine hgo_sound 60 ?_
  simp -implicitDefEqProofs (maxSteps := 1000000) only [simpS, ↓condJ_true, ↓condJ_false, ↓reduceIte, Nat.reduceEqDiff, Nat.reduceLT, Nat.reduceLeDiff, reduceCtorEq, Nat.reduceAdd, Nat.reduceSub, noneS, listS, implies_true, forall_const, ne_eq]
  exact fpost_pure (σ0 := σ) (.inr rfl) (by rw [hnx]; exact Nat.le_refl _) hwf (by first | exact Sub.refl σ | exact (((Ext.refl _).new _).sub hwf)) rfl trivial (by repeat' (first | trivial | apply And.intro)) ⟨rfl, rfl⟩

theorem new_good (s : ByteArray) (hs : s.size ≤ 4000) (hb : badAt (toks s.data.toList 0) = none) (σ : St) (hg : GM σ) : HCalls Tryd.prog 6 [.str s] σ (fun d σ' => d = .tuple [.ptr σ.next 0, .int .i64 0, .nili] ∧ σ' = σ.new (.box (encC (startC s)))) := by
  refine hcalls_body (fn := Tryd.f6) rfl c6 (by simp [h6]) (by simp [h6, Tryd.f6]) ?_
  intro M hP hr hnt hnx hwf hlt
  simp only [h6, argEnv]
  have hnt' : M.nt = 26 := hnt
  have d : decide ((s.size : Int) > 4000) = false := decide_eq_false (by omega)
  have hc := real_calls s (by omega) σ hg
  unfold realR realA realE at hc
  rw [hb] at hc
  refine hgo_sound 60 ?_
  simp -implicitDefEqProofs (maxSteps := 1000000) only [simpS, ↓condJ_true, ↓condJ_false, ↓reduceIte, Nat.reduceEqDiff, Nat.reduceLT, Nat.reduceLeDiff, reduceCtorEq, Nat.reduceAdd, Nat.reduceSub, noneS, listS, implies_true, forall_const, ne_eq, d]
  refine hx_call (f := .fn 23) rfl (by rw [hP]; exact hcallD_func (hc)) ?_
  rintro _ σ2 ⟨rfl, h⟩
  subst σ2
  have he0 : erD 0 = .nili := rfl
  simp only [he0]
  refine hgo_sound 60 ?_
  simp -implicitDefEqProofs (maxSteps := 1000000) only [simpS, ↓condJ_true, ↓condJ_false, ↓reduceIte, Nat.reduceEqDiff, Nat.reduceLT, Nat.reduceLeDiff, reduceCtorEq, Nat.reduceAdd, Nat.reduceSub, noneS, listS, implies_true, forall_const, ne_eq]
  exact fpost_keep (.inr rfl) rfl trivial (fun _ => ⟨Nat.lt_succ_self _, trivial, trivial, trivial⟩) fun hw => ⟨rfl, rfl⟩

theorem ex_toks8 : toks (⟨#[97, 32, 61, 32, 49]⟩ : ByteArray).data.toList 0 = [⟨4, 0, 1⟩, ⟨1, 1, 2⟩, ⟨6, 2, 3⟩, ⟨1, 3, 4⟩, ⟨5, 4, 5⟩] := by kernel_rfl

set_option maxHeartbeats 4000000 in
theorem calive_calls (σ : St) (hg : GM σ) : HCalls Tryd.prog 5 [] σ (fun d σ' => d = .bool true ∧ σ' = σ) := by
  refine hcalls_body (fn := Tryd.f5) rfl c5 (by simp [h5]) (by simp [h5, Tryd.f5]) ?_
  intro M hP hr hnt hnx hwf hlt
  simp only [h5, argEnv]
  have hnt' : M.nt = 52 := hnt
  refine hgo_sound 60 ?_
  simp -implicitDefEqProofs (maxSteps := 1000000) only [simpS, ↓condJ_true, ↓condJ_false, ↓reduceIte, Nat.reduceEqDiff, Nat.reduceLT, Nat.reduceLeDiff, reduceCtorEq, Nat.reduceAdd, Nat.reduceSub, noneS, listS, implies_true, forall_const, ne_eq]
  refine hx_call (f := .fn 6) rfl (by rw [hP]; exact hcallD_func (new_good ⟨#[97, 32, 61, 32, 49]⟩ (by decide) (by rw [ex_toks8]; rfl) σ hg)) ?_
  rintro _ σ2 ⟨rfl, rfl⟩
  have hst : startC ⟨#[97, 32, 61, 32, 49]⟩ = ⟨⟨#[97, 32, 61, 32, 49]⟩, [⟨4, 0, 1⟩, ⟨6, 2, 3⟩, ⟨5, 4, 5⟩], 0, 0, 0, 0, 0⟩ := by unfold startC; rw [ex_toks8]; rfl
  have hgd := start_good (s := ⟨#[97, 32, 61, 32, 49]⟩) (by decide)
  rw [hst] at hgd ⊢
  generalize hc0 : (⟨⟨#[97, 32, 61, 32, 49]⟩, [⟨4, 0, 1⟩, ⟨6, 2, 3⟩, ⟨5, 4, 5⟩], 0, 0, 0, 0, 0⟩ : Cu) = c0 at *
  have h1 : anyC c0 4 = (⟨⟨#[97, 32, 61, 32, 49]⟩, [⟨4, 0, 1⟩, ⟨6, 2, 3⟩, ⟨5, 4, 5⟩], 1, 1, 0, 0, 0⟩, .mk 1 ⟨#[]⟩ ⟨#[97]⟩ 0 []) := by subst hc0; kernel_rfl
  generalize hc1 : (⟨⟨#[97, 32, 61, 32, 49]⟩, [⟨4, 0, 1⟩, ⟨6, 2, 3⟩, ⟨5, 4, 5⟩], 1, 1, 0, 0, 0⟩ : Cu) = c1 at *
  have h2 : wantC c1 ⟨#[61]⟩ = (⟨⟨#[97, 32, 61, 32, 49]⟩, [⟨4, 0, 1⟩, ⟨6, 2, 3⟩, ⟨5, 4, 5⟩], 2, 3, 0, 0, 0⟩, .mk 1 ⟨#[32]⟩ ⟨#[61]⟩ 2 []) := by subst hc1; kernel_rfl
  generalize hc2 : (⟨⟨#[97, 32, 61, 32, 49]⟩, [⟨4, 0, 1⟩, ⟨6, 2, 3⟩, ⟨5, 4, 5⟩], 2, 3, 0, 0, 0⟩ : Cu) = c2 at *
  have h3 : anyC c2 5 = (⟨⟨#[97, 32, 61, 32, 49]⟩, [⟨4, 0, 1⟩, ⟨6, 2, 3⟩, ⟨5, 4, 5⟩], 3, 5, 0, 0, 0⟩, .mk 1 ⟨#[32]⟩ ⟨#[49]⟩ 4 []) := by subst hc2; kernel_rfl
  generalize hc3 : (⟨⟨#[97, 32, 61, 32, 49]⟩, [⟨4, 0, 1⟩, ⟨6, 2, 3⟩, ⟨5, 4, 5⟩], 3, 5, 0, 0, 0⟩ : Cu) = c3 at *
  have g1 : c1.good := by have := good_take hgd (((peekC c0 0).1 : Int) == 4); rw [show takeC c0 (((peekC c0 0).1 : Int) == 4) = anyC c0 4 from rfl, h1] at this; exact this
  have g2 : c2.good := by have := good_take g1 (isC c1 0 ⟨#[61]⟩); rw [show takeC c1 (isC c1 0 ⟨#[61]⟩) = wantC c1 ⟨#[61]⟩ from rfl, h2] at this; exact this
  have g3 : c3.good := by have := good_take g2 (((peekC c2 0).1 : Int) == 5); rw [show takeC c2 (((peekC c2 0).1 : Int) == 5) = anyC c2 5 from rfl, h3] at this; exact this
  have k3 : leftC c3 = 0 := by subst hc3; rfl
  refine hgo_sound 60 ?_
  simp -implicitDefEqProofs (maxSteps := 1000000) only [simpS, ↓condJ_true, ↓condJ_false, ↓reduceIte, Nat.reduceEqDiff, Nat.reduceLT, Nat.reduceLeDiff, reduceCtorEq, Nat.reduceAdd, Nat.reduceSub, noneS, listS, implies_true, forall_const, ne_eq]
  refine hx_call (f := .fn 18) rfl (by rw [hP]; exact hcallD_func (cany_calls σ.next c0 hgd.ok 4 _ (by simp -implicitDefEqProofs (maxSteps := 1000000) only [simpS, ↓condJ_true, ↓condJ_false, ↓reduceIte, Nat.reduceEqDiff, Nat.reduceLT, Nat.reduceLeDiff, reduceCtorEq, Nat.reduceAdd, Nat.reduceSub, noneS, listS, implies_true, forall_const, ne_eq]))) ?_
  rintro _ σ2 ⟨rfl, rfl⟩
  rw [h1]
  refine hgo_sound 60 ?_
  simp -implicitDefEqProofs (maxSteps := 1000000) only [simpS, ↓condJ_true, ↓condJ_false, ↓reduceIte, Nat.reduceEqDiff, Nat.reduceLT, Nat.reduceLeDiff, reduceCtorEq, Nat.reduceAdd, Nat.reduceSub, noneS, listS, implies_true, forall_const, ne_eq]
  refine hx_call (f := .fn 19) rfl (by rw [hP]; exact hcallD_func (cwant_calls σ.next c1 g1.ok ⟨#[61]⟩ _ (by simp -implicitDefEqProofs (maxSteps := 1000000) only [simpS, ↓condJ_true, ↓condJ_false, ↓reduceIte, Nat.reduceEqDiff, Nat.reduceLT, Nat.reduceLeDiff, reduceCtorEq, Nat.reduceAdd, Nat.reduceSub, noneS, listS, implies_true, forall_const, ne_eq]))) ?_
  rintro _ σ2 ⟨rfl, rfl⟩
  rw [h2]
  refine hgo_sound 60 ?_
  simp -implicitDefEqProofs (maxSteps := 1000000) only [simpS, ↓condJ_true, ↓condJ_false, ↓reduceIte, Nat.reduceEqDiff, Nat.reduceLT, Nat.reduceLeDiff, reduceCtorEq, Nat.reduceAdd, Nat.reduceSub, noneS, listS, implies_true, forall_const, ne_eq]
  refine hx_call (f := .fn 18) rfl (by rw [hP]; exact hcallD_func (cany_calls σ.next c2 g2.ok 5 _ (by simp -implicitDefEqProofs (maxSteps := 1000000) only [simpS, ↓condJ_true, ↓condJ_false, ↓reduceIte, Nat.reduceEqDiff, Nat.reduceLT, Nat.reduceLeDiff, reduceCtorEq, Nat.reduceAdd, Nat.reduceSub, noneS, listS, implies_true, forall_const, ne_eq]))) ?_
  rintro _ σ2 ⟨rfl, rfl⟩
  rw [h3]
  have e1 : encN (.mk 1 ⟨#[]⟩ ⟨#[97]⟩ 0 []) = [.int .i64 1, .str ⟨#[]⟩, .str ⟨#[97]⟩, .int .i64 0, .slice .no 5 []] := rfl
  have e2 : encN (.mk 1 ⟨#[32]⟩ ⟨#[61]⟩ 2 []) = [.int .i64 1, .str ⟨#[32]⟩, .str ⟨#[61]⟩, .int .i64 2, .slice .no 5 []] := rfl
  have e3 : encN (.mk 1 ⟨#[32]⟩ ⟨#[49]⟩ 4 []) = [.int .i64 1, .str ⟨#[32]⟩, .str ⟨#[49]⟩, .int .i64 4, .slice .no 5 []] := rfl
  have d1 : decide ((⟨#[97]⟩ : ByteArray) = ⟨#[97]⟩) = true := by decide
  have d2 : decide ((⟨#[]⟩ : ByteArray) = ⟨#[]⟩) = true := by decide
  have d3 : decide ((⟨#[32]⟩ : ByteArray) = ⟨#[32]⟩) = true := by decide
  have d4 : ((4 : Int) == 4) = true := rfl
  rw [e1, e2, e3]
  refine hgo_sound 60 ?_
  simp -implicitDefEqProofs (maxSteps := 1000000) only [simpS, ↓condJ_true, ↓condJ_false, ↓reduceIte, Nat.reduceEqDiff, Nat.reduceLT, Nat.reduceLeDiff, reduceCtorEq, Nat.reduceAdd, Nat.reduceSub, noneS, listS, implies_true, forall_const, ne_eq, d1, d2, d3, d4]
  refine hx_call (f := .fn 15) rfl (by rw [hP]; exact hcallD_func (left_calls σ.next c3 g3.ok _ (by simp -implicitDefEqProofs (maxSteps := 1000000) only [simpS, ↓condJ_true, ↓condJ_false, ↓reduceIte, Nat.reduceEqDiff, Nat.reduceLT, Nat.reduceLeDiff, reduceCtorEq, Nat.reduceAdd, Nat.reduceSub, noneS, listS, implies_true, forall_const, ne_eq]))) ?_
  rintro _ σ2 ⟨rfl, h⟩
  subst σ2
  have d5 : ((leftC c3 : Int) == 0) = true := by rw [k3]; rfl
  refine hgo_sound 60 ?_
  simp -implicitDefEqProofs (maxSteps := 1000000) only [simpS, ↓condJ_true, ↓condJ_false, ↓reduceIte, Nat.reduceEqDiff, Nat.reduceLT, Nat.reduceLeDiff, reduceCtorEq, Nat.reduceAdd, Nat.reduceSub, noneS, listS, implies_true, forall_const, ne_eq, d5]
  exact fpost_pure (σ0 := σ) (.inr rfl) (by rw [hnx]; exact Nat.le_refl _) hwf (((((Ext.refl _).new _).new _).new _).new _ |>.sub hwf) rfl trivial trivial ⟨rfl, rfl⟩

end Go.Hl
set_option linter.unusedSectionVars false
set_option linter.unusedVariables false
set_option linter.unusedSimpArgs false
set_option maxRecDepth 100000
namespace Go.Hl
open Go Go.Proofs Go.RowKit

def srtL : Nat → List Tk3 → Nat → Prop
  | la, [], e => la ≤ e
  | la, x :: r, e => la ≤ x.f ∧ x.f < x.t ∧ x.t ≤ e ∧ srtL x.t r e
theorem srt_filter (p : Tk3 → Bool) : ∀ {l : List Tk3} {a b la : Nat}, tiled a l b → la ≤ a → srtL la (l.filter p) b
  | [], a, b, la, h, hl => by
    have : a = b := h
    show la ≤ b
    omega
  | x :: l, a, b, la, h, hl => by
    obtain ⟨h1, h2, h3, h4⟩ := h
    rw [List.filter_cons]
    split
    · exact ⟨by omega, by omega, h3, srt_filter p h4 (Nat.le_refl _)⟩
    · exact srt_filter p h4 (by omega)

def leafF (s : ByteArray) : Nat → List Tk3 → List Nd
  | _, [] => []
  | la, x :: r => .mk 1 (s.extract la x.f) (textT s x) (x.f : Int) [] :: leafF s x.t r
def lastF : Nat → List Tk3 → Nat
  | la, [] => la
  | _, x :: r => lastF x.t r

theorem leafF_length (s : ByteArray) : ∀ (l : List Tk3) (la : Nat), (leafF s la l).length = l.length
  | [], _ => rfl
  | x :: r, la => by simp only [leafF, List.length_cons, leafF_length s r]
theorem leafF_get (s : ByteArray) : ∀ (l : List Tk3) (la i : Nat) (h : i < l.length), (leafF s la l)[i]? = some (.mk 1 (s.extract (lastF la (l.take i)) l[i].f) (textT s l[i]) (l[i].f : Int) [])
  | x :: r, la, 0, h => by simp [leafF, lastF]
  | x :: r, la, i + 1, h => by
    simp only [leafF, List.getElem?_cons_succ, List.getElem_cons_succ, List.take_succ_cons, lastF]
    exact leafF_get s r x.t i (by simpa using h)
theorem lastF_snoc : ∀ (l : List Tk3) (la : Nat) (x : Tk3), lastF la (l ++ [x]) = x.t
  | [], _, _ => rfl
  | y :: r, _, x => by simp only [List.cons_append, lastF, lastF_snoc r]
theorem lastF_le : ∀ (l : List Tk3) (la e : Nat), srtL la l e → lastF la l ≤ e
  | [], la, e, h => h
  | x :: r, la, e, h => lastF_le r x.t e h.2.2.2

theorem leafF_formed (s : ByteArray) : ∀ (l : List Tk3) (la : Nat), srtL la l s.size → ∀ n ∈ leafF s la l, formedB n = true ∧ n.kids = [] ∧ n.kind = 1
  | [], la, _, n, h => by cases h
  | x :: r, la, hs, n, h => by
    obtain ⟨h1, h2, h3, h4⟩ := hs
    simp only [leafF, List.mem_cons] at h
    rcases h with rfl | h
    · refine ⟨?_, rfl, rfl⟩
      have ht : ¬ textT s x = ⟨#[]⟩ := by
        intro e
        have h5 := congrArg ByteArray.size e
        unfold textT at h5
        rw [ByteArray.size_extract] at h5
        have h6 : (⟨#[]⟩ : ByteArray).size = 0 := rfl
        omega
      simp [formedB, ht]
    · exact leafF_formed s r x.t h4 n h

theorem leafF_stand (s : ByteArray) (hs : s.size ≤ 4000) : ∀ (l : List Tk3) (la : Nat), srtL la l s.size → rngRun standStep ((la : Int), false) (leafF s la l) = ((((lastF la l : Nat) : Int), false), none)
  | [], la, _ => rfl
  | x :: r, la, h => by
    obtain ⟨h1, h2, h3, h4⟩ := h
    have hg : (s.extract la x.f).size = x.f - la := by rw [ByteArray.size_extract]; omega
    have ht : (textT s x).size = x.t - x.f := by unfold textT; rw [ByteArray.size_extract]; omega
    have hst : standStep ((la : Int), false) (.mk 1 (s.extract la x.f) (textT s x) (x.f : Int) []) = (((x.t : Int), false), none) := by
      unfold standStep
      simp only [Nd.at_, Nd.gap, Nd.text, hg, ht]
      rw [IntWalk.i64_in _ (by omega), if_pos (by omega), IntWalk.i64_in _ (by omega)]
      congr 2
      omega
    simp only [leafF, rngRun, hst, lastF]
    exact leafF_stand s hs r x.t h4

theorem leafF_text (s : ByteArray) : ∀ (l : List Tk3) (la : Nat), srtL la l s.size → s.extract 0 la ++ textL (leafF s la l) = s.extract 0 (lastF la l)
  | [], la, _ => by
    simp only [leafF, textL, lastF]
    exact ByteArray.append_empty
  | x :: r, la, h => by
    obtain ⟨h1, h2, h3, h4⟩ := h
    simp only [leafF, textL, lastF, Nd.gap, Nd.text]
    have e1 : s.extract 0 la ++ s.extract la x.f = s.extract 0 x.f := by rw [ByteArray.extract_append_extract]; congr 1 <;> omega
    have e2 : s.extract 0 x.f ++ textT s x = s.extract 0 x.t := by unfold textT; rw [ByteArray.extract_append_extract]; congr 1 <;> omega
    rw [← ByteArray.append_assoc, ← ByteArray.append_assoc, e1, e2]
    exact leafF_text s r x.t h4

theorem pre_leaves (d : Int) : ∀ (ks : List Nd), (∀ n ∈ ks, n.kids = []) → preNs d ks = ks.map fun k => (d, k)
  | [], _ => rfl
  | n :: ns, h => by
    have h0 := h n (List.mem_cons_self ..)
    obtain ⟨k, g, t, a, ks⟩ := n
    have h1 : ks = [] := h0
    subst h1
    simp only [preNs, preN, List.map_cons, List.cons_append, List.nil_append]
    rw [pre_leaves d ns fun n hn => h n (List.mem_cons_of_mem _ hn)]
theorem cnt_leaves : ∀ (ks : List Nd), (∀ n ∈ ks, n.kids = []) → cntNs ks = ks.length
  | [], _ => rfl
  | n :: ns, h => by
    have h0 := h n (List.mem_cons_self ..)
    obtain ⟨k, g, t, a, ks⟩ := n
    have h1 : ks = [] := h0
    subst h1
    simp only [cntNs, cntN, List.length_cons]
    rw [cnt_leaves ns fun n hn => h n (List.mem_cons_of_mem _ hn)]
    omega
theorem leaves_map (d : Int) : ∀ (ks : List Nd), (∀ n ∈ ks, n.kind = 1) → leavesL (ks.map fun k => (d, k)) = ks
  | [], _ => rfl
  | n :: ns, h => by
    simp only [List.map_cons, leavesL]
    rw [if_pos (h n (List.mem_cons_self ..)), leaves_map d ns fun n hn => h n (List.mem_cons_of_mem _ hn)]

theorem right_leaves (d : Int) : ∀ (ks : List Nd) (m : Int), 0 ≤ m → m + ks.length ≤ 20000 → (∀ n ∈ ks, formedB n = true ∧ n.kids = []) → rightRun (m, true) (ks.map fun k => (d, k)) = (m + ks.length, true)
  | [], m, _, _, _ => by simp [rightRun]
  | n :: ns, m, h0, h1, h => by
    obtain ⟨hf, hk⟩ := h n (List.mem_cons_self ..)
    simp only [List.length_cons] at h1
    have hs : rightStep (m, true) (d, n) = ((m + 1, true), true) := by
      unfold rightStep
      simp only [hf, hk, List.length_nil, Bool.true_and]
      rw [decide_eq_true (by omega)]
    simp only [List.map_cons, rightRun, hs, if_true]
    rw [right_leaves d ns (m + 1) (by omega) (by omega) fun n hn => h n (List.mem_cons_of_mem _ hn)]
    simp only [List.length_cons]
    congr 1
    omega

def fileN (ks : List Nd) : Nd := .mk 2 ⟨#[]⟩ ⟨#[]⟩ 0 ks

theorem file_right (ks : List Nd) (hl : ks.length ≤ 4000) (h : ∀ n ∈ ks, formedB n = true ∧ n.kids = []) : rightN (fileN ks) = true ∧ preN 0 (fileN ks) = (0, fileN ks) :: ks.map fun k => (1, k) := by
  have hp : preN 0 (fileN ks) = (0, fileN ks) :: ks.map fun k => ((1 : Int), k) := by
    simp only [fileN, preN]
    rw [pre_leaves _ ks fun n hn => (h n hn).2]
    rfl
  refine ⟨?_, hp⟩
  have hs : rightStep (0, true) (0, fileN ks) = ((1, true), true) := by
    unfold rightStep
    have hf : formedB (fileN ks) = true := by simp [fileN, formedB]
    simp only [hf, Bool.true_and]
    rw [decide_eq_true (by show (0 : Int) + 1 + (ks.length : Int) ≤ 20000; omega)]
    rfl
  have hr : rightRun (0, true) (preN 0 (fileN ks)) = (1 + (ks.length : Int), true) := by
    rw [hp]
    simp only [rightRun, hs, if_true]
    exact right_leaves 1 ks 1 (by omega) (by omega) h
  unfold rightN
  rw [hr]
  simp only [Bool.true_and]
  exact decide_eq_true (by omega)

theorem file_leaves (ks : List Nd) (hl : ks.length ≤ 4000) (h : ∀ n ∈ ks, formedB n = true ∧ n.kids = [] ∧ n.kind = 1) : leavesL (walkN (fileN ks)) = ks ∧ rightN (fileN ks) = true := by
  obtain ⟨h1, h2⟩ := file_right ks hl fun n hn => ⟨(h n hn).1, (h n hn).2.1⟩
  refine ⟨?_, h1⟩
  unfold walkN
  rw [h1, h2]
  simp only [if_true, leavesL]
  rw [if_neg (by show ¬ (2 : Int) = 1; decide)]
  exact leaves_map 1 ks fun n hn => (h n hn).2.2

theorem file_stands (s : ByteArray) (hs : s.size ≤ 4000) (l : List Tk3) (hl : l.length ≤ 4000) (hsr : srtL 0 l s.size) :
    standsN (fileN (leafF s 0 l)) 0 = true ∧ textL (leavesL (walkN (fileN (leafF s 0 l)))) ++ s.extract (lastF 0 l) s.size = s := by
  obtain ⟨h1, h2⟩ := file_leaves (leafF s 0 l) (by rw [leafF_length]; exact hl) (leafF_formed s l 0 hsr)
  constructor
  · unfold standsN
    rw [h1, h2]
    have h := leafF_stand s hs l 0 hsr
    have h0 : ((0 : Nat) : Int) = 0 := rfl
    rw [h0] at h
    rw [h]
    rfl
  · rw [h1]
    have ht := leafF_text s l 0 hsr
    have e0 : s.extract 0 0 ++ textL (leafF s 0 l) = textL (leafF s 0 l) := by
      rw [show s.extract 0 0 = ⟨#[]⟩ from by simp; rfl]
      exact ByteArray.empty_append
    rw [e0] at ht
    have hle := lastF_le l 0 s.size hsr
    rw [ht, ByteArray.extract_append_extract]
    rw [Nat.min_eq_left (Nat.zero_le _), Nat.max_eq_right hle]
    exact ByteArray.extract_zero_size

end Go.Hl
set_option linter.unusedSectionVars false
set_option linter.unusedVariables false
set_option linter.unusedSimpArgs false
set_option maxRecDepth 100000
namespace Go.Hl
open Go Go.Proofs Go.RowKit

def cuA (s : ByteArray) (L : List Tk3) (i : Nat) : Cu := ⟨s, L, i, lastF 0 (L.take i), 0, 0, 0⟩

theorem cuA_peek (s : ByteArray) (L : List Tk3) (i : Nat) (h : i < L.length) : peekC (cuA s L i) 0 = (L[i].k, textT s L[i]) := by
  have hl : leftC (cuA s L i) = L.length - i := rfl
  have hgd : L.getD i ⟨0, 0, 0⟩ = L[i] := by simp [List.getD, h]
  unfold peekC
  rw [if_pos ⟨Int.le_refl _, by rw [hl]; omega⟩]
  show ((L.getD (i + 0) ⟨0, 0, 0⟩).k, textT s (L.getD (i + 0) ⟨0, 0, 0⟩)) = _
  rw [Nat.add_zero, hgd]

theorem cuA_take (s : ByteArray) (L : List Tk3) (i : Nat) (h : i < L.length) : takeC (cuA s L i) true = (cuA s L (i + 1), .mk 1 (s.extract (lastF 0 (L.take i)) L[i].f) (textT s L[i]) (L[i].f : Int) []) := by
  have hl : leftC (cuA s L i) = L.length - i := rfl
  have hgd : L.getD i ⟨0, 0, 0⟩ = L[i] := by simp [List.getD, h]
  unfold takeC
  rw [if_pos ⟨rfl, by rw [hl]; omega⟩]
  have hla : lastF 0 (L.take (i + 1)) = L[i].t := by rw [List.take_succ_eq_append_getElem h, lastF_snoc]
  show ((⟨s, L, i + 1, (L.getD i ⟨0, 0, 0⟩).t, 0, 0, 0⟩ : Cu), Nd.mk 1 (s.extract (lastF 0 (L.take i)) (L.getD i ⟨0, 0, 0⟩).f) (textT s (L.getD i ⟨0, 0, 0⟩)) ((L.getD i ⟨0, 0, 0⟩).f : Int) []) = _
  rw [hgd]
  unfold cuA
  rw [hla]

theorem cuA_good (s : ByteArray) (L : List Tk3) (h0 : (cuA s L 0).good) : ∀ i, i ≤ L.length → (cuA s L i).good
  | 0, _ => h0
  | i + 1, h => by
    have h1 := good_take (cuA_good s L h0 i (by omega)) true
    rw [cuA_take s L i (by omega)] at h1
    exact h1

def tkA (e : Nat) : Nat → Ob
  | 0 => .tokF e 0
  | i + 1 => .tok e (i + 1)

def alS (σ : St) (s : ByteArray) (L : List Tk3) (i : Nat) : St := (σ.new (.box (encC (cuA s L i)))).new (tkA 43 i)
theorem alS_wf {σ : St} (hwf : σ.wf) (s : ByteArray) (L : List Tk3) (i : Nat) : (alS σ s L i).wf := by
  refine (hwf.box (encC_lt _ _)).new ?_
  cases i <;> trivial

theorem encNs_snoc (l : List Nd) (n : Nd) : encNs l ++ [encN n] = encNs (l ++ [n]) := by rw [encNs_eq, encNs_eq]; simp

set_option maxHeartbeats 8000000 in
theorem cursorAll_calls (s : ByteArray) (σ : St) (hg : GM σ) : HCalls Tryd.prog 4 [.str s] σ (fun d σ' => d = .bool true ∧ σ' = σ) := by
  refine hcalls_body (fn := Tryd.f4) rfl c4 (by simp [h4]) (by simp [h4, Tryd.f4]) ?_
  intro M hP hr hnt hnx hwf hlt
  simp only [h4, argEnv]
  have hnt' : M.nt = 74 := hnt
  refine hgo_sound 60 ?_
  simp -implicitDefEqProofs (maxSteps := 1000000) only [simpS, ↓condJ_true, ↓condJ_false, ↓reduceIte, Nat.reduceEqDiff, Nat.reduceLT, Nat.reduceLeDiff, reduceCtorEq, Nat.reduceAdd, Nat.reduceSub, noneS, listS, implies_true, forall_const, ne_eq]
  refine hx_call (f := .fn 5) rfl (by rw [hP]; exact hcallD_func (calive_calls _ hg)) ?_
  rintro _ σ2 ⟨rfl, h⟩
  subst σ2
  refine hgo_sound 60 ?_
  simp -implicitDefEqProofs (maxSteps := 1000000) only [simpS, ↓condJ_true, ↓condJ_false, ↓reduceIte, Nat.reduceEqDiff, Nat.reduceLT, Nat.reduceLeDiff, reduceCtorEq, Nat.reduceAdd, Nat.reduceSub, noneS, listS, implies_true, forall_const, ne_eq]
  by_cases h4 : s.size ≤ 4000
  rotate_left
  · have d4 : decide ((s.size : Int) > 4000) = true := decide_eq_true (by omega)
    refine hx_call (f := .fn 6) rfl (by rw [hP]; exact hcallD_func (new_large s h4 _)) ?_
    rintro _ σ2 ⟨rfl, h⟩
    subst σ2
    have he : erV 4 = .iface 32 (.int .i64 4) := rfl
    rw [he]
    refine hgo_sound 60 ?_
    simp -implicitDefEqProofs (maxSteps := 1000000) only [simpS, ↓condJ_true, ↓condJ_false, ↓reduceIte, Nat.reduceEqDiff, Nat.reduceLT, Nat.reduceLeDiff, reduceCtorEq, Nat.reduceAdd, Nat.reduceSub, noneS, listS, implies_true, forall_const, ne_eq, d4]
    exact fpost_pure (σ0 := σ) (.inr rfl) (by rw [hnx]; exact Nat.le_refl _) hwf (by first | exact Sub.refl σ | exact (((Ext.refl _).new _).sub hwf)) rfl trivial (by repeat' (first | trivial | apply And.intro)) ⟨rfl, rfl⟩
  have d4 : decide ((s.size : Int) > 4000) = false := decide_eq_false (by omega)
  cases hb : badAt (toks s.data.toList 0) with
  | some f =>
    refine hx_call (f := .fn 6) rfl (by rw [hP]; exact hcallD_func (new_bad s h4 f hb _ hg)) ?_
    rintro _ σ2 ⟨rfl, h⟩
    subst σ2
    have he : erV 2 = .iface 32 (.int .i64 2) := rfl
    rw [he]
    refine hgo_sound 60 ?_
    simp -implicitDefEqProofs (maxSteps := 1000000) only [simpS, ↓condJ_true, ↓condJ_false, ↓reduceIte, Nat.reduceEqDiff, Nat.reduceLT, Nat.reduceLeDiff, reduceCtorEq, Nat.reduceAdd, Nat.reduceSub, noneS, listS, implies_true, forall_const, ne_eq]
    exact fpost_pure (σ0 := σ) (.inr rfl) (by rw [hnx]; exact Nat.le_refl _) hwf (by first | exact Sub.refl σ | exact (((Ext.refl _).new _).sub hwf)) rfl trivial (by repeat' (first | trivial | apply And.intro)) ⟨rfl, rfl⟩
  | none =>
    refine hx_call (f := .fn 6) rfl (by rw [hP]; exact hcallD_func (new_good s h4 hb σ hg)) ?_
    rintro _ σ2 ⟨rfl, rfl⟩
    have hgd := start_good h4
    have hsr : srtL 0 (realsL (toks s.data.toList 0)) s.size := srt_filter _ (tiledS s) (Nat.le_refl _)
    have hll : (realsL (toks s.data.toList 0)).length ≤ s.size := Nat.le_trans (realsL_le _) (toks_le s)
    have hst : startC s = cuA s (realsL (toks s.data.toList 0)) 0 := rfl
    rw [hst] at hgd ⊢
    generalize realsL (toks s.data.toList 0) = L at *
    have hgi := cuA_good s L hgd
    obtain ⟨hstands, htext⟩ := file_stands s h4 L (by omega) hsr
    refine hgo_sound 60 ?_
    simp -implicitDefEqProofs (maxSteps := 1000000) only [simpS, ↓condJ_true, ↓condJ_false, ↓reduceIte, Nat.reduceEqDiff, Nat.reduceLT, Nat.reduceLeDiff, reduceCtorEq, Nat.reduceAdd, Nat.reduceSub, noneS, listS, implies_true, forall_const, ne_eq, d4]
    refine hx_own (t := 6) 43 rfl ?_ (fun _ e => by cases e) (fun _ e => by cases e)
    simp -implicitDefEqProofs (maxSteps := 1000000) only [simpS, ↓condJ_true, ↓condJ_false, ↓reduceIte, Nat.reduceEqDiff, Nat.reduceLT, Nat.reduceLeDiff, reduceCtorEq, Nat.reduceAdd, Nat.reduceSub, noneS, listS, implies_true, forall_const, ne_eq]
    refine hx_know_code fun hw hl1 hn => ?_
    rw [show (σ.new (.box (encC (cuA s L 0)))).new (.tokF 43 0) = alS σ s L 0 from rfl] at hw hl1 hn ⊢
    refine hx_loop (S := Nat) (fun i => [(0, .str s), (3, .ptr σ.next 0), (6, .slice (.tok (σ.next + 1)) 5 (encNs ((leafF s 0 L).take i)))]) (fun i => alS σ s L i)
      (fun i => i ≤ L.length) (fun i => L.length - i) 0 (Nat.zero_le _) (fun _ _ h => by rw [hr] at h; cases h) ?_ ?_
    · exact Drop.all hw hn ⟨⟨rfl, trivial⟩, ⟨rfl, hl1 3⟩, ⟨rfl, hl1 6⟩, trivial⟩
    intro i hi
    have hok := (hgi i hi).ok
    have hlen : ((leafF s 0 L).take i).length = i := by rw [List.length_take, leafF_length]; omega
    have hlc : leftC (cuA s L i) = L.length - i := rfl
    refine hgo_sound 60 ?_
    simp -implicitDefEqProofs (maxSteps := 1000000) only [simpS, ↓condJ_true, ↓condJ_false, ↓reduceIte, Nat.reduceEqDiff, Nat.reduceLT, Nat.reduceLeDiff, reduceCtorEq, Nat.reduceAdd, Nat.reduceSub, noneS, listS, implies_true, forall_const, ne_eq]
    refine hx_call (f := .fn 15) rfl (by rw [hP]; exact hcallD_func (left_calls σ.next (cuA s L i) hok _ (by simp only [alS, simpS, ↓condJ_true, ↓condJ_false, ↓reduceIte, Nat.reduceEqDiff, Nat.reduceLT, Nat.reduceLeDiff, reduceCtorEq, Nat.reduceAdd, Nat.reduceSub, noneS, listS, implies_true, forall_const, ne_eq]))) ?_
    rintro _ σ2 ⟨rfl, h⟩
    subst σ2
    by_cases hil : i < L.length
    · have d1 : decide ((leftC (cuA s L i) : Int) > 0) = true := decide_eq_true (by rw [hlc]; omega)
      have d2 : decide ((i : Int) ≤ (s.size : Int)) = true := decide_eq_true (by omega)
      have hpk := cuA_peek s L i hil
      have htk : anyC (cuA s L i) ((L[i].k : Nat) : Int) = (cuA s L (i + 1), .mk 1 (s.extract (lastF 0 (L.take i)) L[i].f) (textT s L[i]) (L[i].f : Int) []) := by
        unfold anyC
        rw [hpk]
        simp only [beq_self_eq_true]
        exact cuA_take s L i hil
      have hnext : (leafF s 0 L).take (i + 1) = (leafF s 0 L).take i ++ [.mk 1 (s.extract (lastF 0 (L.take i)) L[i].f) (textT s L[i]) (L[i].f : Int) []] := by
        have h1 := leafF_get s L 0 i hil
        have hil2 : i < (leafF s 0 L).length := by rw [leafF_length]; exact hil
        rw [List.take_succ_eq_append_getElem hil2]
        rw [List.getElem?_eq_getElem hil2] at h1
        injection h1 with h1
        rw [h1]
      generalize (Nd.mk 1 (s.extract (lastF 0 (L.take i)) L[i].f) (textT s L[i]) (L[i].f : Int) []) = nd at *
      have hb1 : (i + 1) * 72 ≤ 140737488355328 := by omega
      have hb2 : i + 1 ≤ 9223372036854775807 := by omega
      refine hgo_sound 60 ?_
      simp -implicitDefEqProofs (maxSteps := 1000000) only [simpS, ↓condJ_true, ↓condJ_false, ↓reduceIte, Nat.reduceEqDiff, Nat.reduceLT, Nat.reduceLeDiff, reduceCtorEq, Nat.reduceAdd, Nat.reduceSub, noneS, listS, implies_true, forall_const, ne_eq, d1, d2, encNs_length, hlen]
      refine hx_call (f := .fn 13) rfl (by rw [hP]; exact hcallD_func (peek_calls σ.next (cuA s L i) hok 0 _ (by simp only [alS, simpS, ↓condJ_true, ↓condJ_false, ↓reduceIte, Nat.reduceEqDiff, Nat.reduceLT, Nat.reduceLeDiff, reduceCtorEq, Nat.reduceAdd, Nat.reduceSub, noneS, listS, implies_true, forall_const, ne_eq]))) ?_
      rintro _ σ2 ⟨rfl, h⟩
      subst σ2
      rw [hpk]
      refine hgo_sound 60 ?_
      simp -implicitDefEqProofs (maxSteps := 1000000) only [simpS, ↓condJ_true, ↓condJ_false, ↓reduceIte, Nat.reduceEqDiff, Nat.reduceLT, Nat.reduceLeDiff, reduceCtorEq, Nat.reduceAdd, Nat.reduceSub, noneS, listS, implies_true, forall_const, ne_eq]
      refine hx_call (f := .fn 18) rfl (by rw [hP]; exact hcallD_func (cany_calls σ.next (cuA s L i) hok ((L[i].k : Nat) : Int) _ (by simp only [alS, simpS, ↓condJ_true, ↓condJ_false, ↓reduceIte, Nat.reduceEqDiff, Nat.reduceLT, Nat.reduceLeDiff, reduceCtorEq, Nat.reduceAdd, Nat.reduceSub, noneS, listS, implies_true, forall_const, ne_eq]))) ?_
      rintro _ σ2 ⟨rfl, rfl⟩
      rw [htk]
      have hne : ¬ σ.next + 1 = σ.next := by omega
      cases i with
      | zero =>
        refine hgo_sound 60 ?_
        simp -implicitDefEqProofs (maxSteps := 1000000) only [simpS, ↓condJ_true, ↓condJ_false, ↓reduceIte, Nat.reduceEqDiff, Nat.reduceLT, Nat.reduceLeDiff, reduceCtorEq, Nat.reduceAdd, Nat.reduceSub, noneS, listS, implies_true, forall_const, ne_eq, encNs_length, hlen, encN_length, hb1, hb2, hne, alS, tkA]
        intro hw5 hl5 hn5
        refine ⟨0 + 1, by omega, by omega, ?_⟩
        have e : encNs [] ++ [encN nd] = encNs ((leafF s 0 L).take (0 + 1)) := by rw [hnext, ← encNs_snoc]; try rfl
        rw [e]
        exact Drop.allS (Sub.refl _) (alS_wf hwf s L (0 + 1)) (by rw [hnx]; show σ.next ≤ σ.next + 2; omega) ⟨⟨rfl, trivial⟩, ⟨rfl, show σ.next < σ.next + 2 by omega⟩, ⟨rfl, show σ.next + 1 < σ.next + 2 by omega, encNs_lt _ _⟩, trivial⟩
      | succ i =>
        refine hgo_sound 60 ?_
        simp -implicitDefEqProofs (maxSteps := 1000000) only [simpS, ↓condJ_true, ↓condJ_false, ↓reduceIte, Nat.reduceEqDiff, Nat.reduceLT, Nat.reduceLeDiff, reduceCtorEq, Nat.reduceAdd, Nat.reduceSub, noneS, listS, implies_true, forall_const, ne_eq, encNs_length, hlen, encN_length, hb1, hb2, hne, alS, tkA]
        intro hw5 hl5 hn5
        refine ⟨i + 1 + 1, by omega, by omega, ?_⟩
        have e : encNs (List.take (i + 1) (leafF s 0 L)) ++ [encN nd] = encNs ((leafF s 0 L).take (i + 1 + 1)) := by rw [hnext, ← encNs_snoc]; try rfl
        rw [e]
        exact Drop.allS (Sub.refl _) (alS_wf hwf s L (i + 1 + 1)) (by rw [hnx]; show σ.next ≤ σ.next + 2; omega) ⟨⟨rfl, trivial⟩, ⟨rfl, show σ.next < σ.next + 2 by omega⟩, ⟨rfl, show σ.next + 1 < σ.next + 2 by omega, encNs_lt _ _⟩, trivial⟩
    · have hiL : i = L.length := by omega
      subst hiL
      have d1 : decide ((leftC (cuA s L L.length) : Int) > 0) = false := decide_eq_false (by rw [hlc]; omega)
      have hta : (leafF s 0 L).take L.length = leafF s 0 L := List.take_of_length_le (by rw [leafF_length]; exact Nat.le_refl _)
      have hend : endC (cuA s L L.length) = s.extract (lastF 0 L) s.size := by
        unfold endC
        rw [if_pos ⟨rfl, by rw [hlc]; omega⟩]
        show s.extract (lastF 0 (L.take L.length)) s.size = _
        rw [List.take_length]
      rw [hta]
      refine hgo_sound 60 ?_
      simp -implicitDefEqProofs (maxSteps := 1000000) only [simpS, ↓condJ_true, ↓condJ_false, ↓reduceIte, Nat.reduceEqDiff, Nat.reduceLT, Nat.reduceLeDiff, reduceCtorEq, Nat.reduceAdd, Nat.reduceSub, noneS, listS, implies_true, forall_const, ne_eq, d1]
      refine hx_call (f := .fn 20) rfl (by rw [hP]; exact hcallD_func (make_calls 2 (leafF s 0 L) (.tok (σ.next + 1)) (by rw [leafF_length]; omega) _)) ?_
      rintro _ σ2 ⟨rfl, h⟩
      subst σ2
      rw [show Nd.mk 2 ⟨#[]⟩ ⟨#[]⟩ 0 (leafF s 0 L) = fileN (leafF s 0 L) from rfl]
      have hcnt : cntN (fileN (leafF s 0 L)) ≤ 1099511627776 := by
        have h1 := leafF_formed s L 0 hsr
        show 1 + cntNs (leafF s 0 L) ≤ _
        rw [cnt_leaves _ fun n hn => (h1 n hn).2.1, leafF_length]
        omega
      generalize fileN (leafF s 0 L) = N at *
      have hts : (textL (leavesL (walkN N))).size + (s.extract (lastF 0 L) s.size).size = s.size := by
        have := congrArg ByteArray.size htext
        rwa [ByteArray.size_append] at this
      have hsz : ∀ l : List Nd, (textL l).size = textLen l := fun l => by
        induction l with
        | nil => rfl
        | cons x xs ih => simp only [textL, textLen, ByteArray.size_append, ih]
      have hsum : (textL (leavesL (walkN N))).size + (s.extract (lastF 0 L) s.size).size ≤ 9223372036854775807 := by omega
      have hdec : decide (textL (leavesL (walkN N)) ++ s.extract (lastF 0 L) s.size = s) = true := decide_eq_true htext
      refine hgo_sound 60 ?_
      simp -implicitDefEqProofs (maxSteps := 1000000) only [simpS, ↓condJ_true, ↓condJ_false, ↓reduceIte, Nat.reduceEqDiff, Nat.reduceLT, Nat.reduceLeDiff, reduceCtorEq, Nat.reduceAdd, Nat.reduceSub, noneS, listS, implies_true, forall_const, ne_eq, encN_length, alS]
      refine hx_call (f := .fn 8) rfl (by rw [hP]; exact hcallD_func (failed_calls σ.next (cuA s L L.length) _ (by simp -implicitDefEqProofs (maxSteps := 1000000) only [simpS, ↓condJ_true, ↓condJ_false, ↓reduceIte, Nat.reduceEqDiff, Nat.reduceLT, Nat.reduceLeDiff, reduceCtorEq, Nat.reduceAdd, Nat.reduceSub, noneS, listS, implies_true, forall_const, ne_eq]))) ?_
      rintro _ σ2 ⟨rfl, h⟩
      subst σ2
      rw [show erV (cuA s L L.length).er = .nili from rfl]
      refine hgo_sound 60 ?_
      simp -implicitDefEqProofs (maxSteps := 1000000) only [simpS, ↓condJ_true, ↓condJ_false, ↓reduceIte, Nat.reduceEqDiff, Nat.reduceLT, Nat.reduceLeDiff, reduceCtorEq, Nat.reduceAdd, Nat.reduceSub, noneS, listS, implies_true, forall_const, ne_eq, encN_length]
      refine hx_call (f := .fn 21) rfl (by rw [hP]; exact hcallD_func (stands_calls N hcnt 0 _)) ?_
      rintro _ σ2 ⟨rfl, h⟩
      subst σ2
      rw [hstands]
      refine hgo_sound 60 ?_
      simp -implicitDefEqProofs (maxSteps := 1000000) only [simpS, ↓condJ_true, ↓condJ_false, ↓reduceIte, Nat.reduceEqDiff, Nat.reduceLT, Nat.reduceLeDiff, reduceCtorEq, Nat.reduceAdd, Nat.reduceSub, noneS, listS, implies_true, forall_const, ne_eq, encN_length]
      refine hx_call (f := .fn 22) rfl (by rw [hP]; exact hcallD_func (text_calls N hcnt (by rw [← hsz]; omega) _)) ?_
      rintro _ σ2 ⟨rfl, h⟩
      subst σ2
      refine hgo_sound 60 ?_
      simp -implicitDefEqProofs (maxSteps := 1000000) only [simpS, ↓condJ_true, ↓condJ_false, ↓reduceIte, Nat.reduceEqDiff, Nat.reduceLT, Nat.reduceLeDiff, reduceCtorEq, Nat.reduceAdd, Nat.reduceSub, noneS, listS, implies_true, forall_const, ne_eq]
      refine hx_call (f := .fn 16) rfl (by rw [hP]; exact hcallD_func (end_calls σ.next (cuA s L L.length) hok _ (by simp -implicitDefEqProofs (maxSteps := 1000000) only [simpS, ↓condJ_true, ↓condJ_false, ↓reduceIte, Nat.reduceEqDiff, Nat.reduceLT, Nat.reduceLeDiff, reduceCtorEq, Nat.reduceAdd, Nat.reduceSub, noneS, listS, implies_true, forall_const, ne_eq]))) ?_
      rintro _ σ2 ⟨rfl, h⟩
      subst σ2
      rw [hend]
      refine hgo_sound 60 ?_
      simp -implicitDefEqProofs (maxSteps := 1000000) only [simpS, ↓condJ_true, ↓condJ_false, ↓reduceIte, Nat.reduceEqDiff, Nat.reduceLT, Nat.reduceLeDiff, reduceCtorEq, Nat.reduceAdd, Nat.reduceSub, noneS, listS, implies_true, forall_const, ne_eq, hsum, hdec]
      exact fpost_pure (σ0 := σ) (.inr rfl) (by rw [hnx]; exact Nat.le_refl _) hwf (((((Ext.refl _).new _).new _).new _).sub hwf) rfl trivial trivial ⟨rfl, rfl⟩

end Go.Hl
set_option linter.unusedSectionVars false
set_option linter.unusedVariables false
namespace Go.Hl
open Go Go.RowKit

def σG (gl : Nat → Option (List D)) : St := ⟨fun _ => none, gl, 0⟩

theorem RC_of {g : G} {w : World} : ∀ {ds : List D} {vs : List Value}, vs.length = ds.length → (∀ (i : Nat) d v, ds[i]? = some d → vs[i]? = some v → v.oneCell' = true ∧ R g w d v) → RC g w ds vs
  | [], [], _, _ => by simp only [RC]
  | [], _ :: _, h, _ => by simp at h
  | _ :: _, [], h, _ => by simp at h
  | d :: ds, v :: vs, h, k => by
    simp only [RC]
    exact ⟨v, vs, rfl, k 0 d v rfl rfl, RC_of (by simpa using h) fun i d' v' h1 h2 => k (i + 1) d' v' (by simpa using h1) (by simpa using h2)⟩

theorem relG {P : Program} {W : World} {gl : Nat → Option (List D)} (h : ∀ k cs, gl k = some cs → ∃ c e z, W.heap[k]? = some (.cells c e z) ∧ RC g0 W cs c.toList) : Rel P g0 (σG gl) W where
  gw := (rel0 P W).gw
  next := rfl
  obj := fun _ _ h => by cases h
  glob := fun k cs hk => ⟨h k cs hk, fun _ _ h => by cases h⟩

theorem calls_ofG {P : Program} {f : Nat} {ds : List D} {vs : List Value} {W : World} {σ : St} {Q : D → St → Prop} (hb : hasBody P f = true) (hrel : Rel P g0 σ W) (h : HCalls P f ds σ Q) (hr : RL g0 W ds vs) :
    Calls P f vs.toArray W fun e W' => ∃ v d g' σ', e = .returned v ∧ Below W.heap.size W W' ∧ R g' W' d v ∧ Q d σ' := by
  have h1 := h g0 W vs hrel hr
  rw [callFunc_has hb] at h1
  refine callsIn_wide.1 (CallsIn.mono h1 ?_)
  intro e W' he
  cases e <;> simp only [HRet] at he
  obtain ⟨d, g', σ', hE, hR, hd, hq⟩ := he
  exact ⟨_, d, g', σ', rfl, ⟨hE.out.os, hE.out.tape, hE.out.output, hE.size, fun k hk => hE.still k hk (fun id h ha => by cases ha)⟩, hd, hq⟩

section
variable {H : Type} {enc : TypeId × Value → H} {P : Program} {W : World} {sp : Nat → Bool} {held : Bool}

theorem var_heap {n : String} {k : Nat} {cs : Array Value} (hg : P.globalNamed n = some k) (hv : W.var? P n = some cs) : ∃ e z, W.heap[k]? = some (.cells cs e z) := by
  unfold World.var? at hv
  simp only [hg, Option.bind_some] at hv
  split at hv
  · rename_i c e z hh
    injection hv with hv
    subst hv
    exact ⟨e, z, hh⟩
  · cases hv

theorem trod_array1 {t e n : Nat} (hu : P.underlying t = some (.array n e)) (hc : P.cellsOf e = 1) (ht : P.cellsOf t = n) {fuel : Nat} {cs : List Value} {ds : List (DataW H)} {ps : List MemPlace} (h : DataW.trod enc P W 0 sp held fuel t cs = some (.agg ds, ps)) :
    cs.length = n ∧ ds.length = n ∧ ∃ fuel', ∀ (i : Nat) v d, cs[i]? = some v → ds[i]? = some d → ∃ ps, DataW.trod enc P W 0 sp held fuel' e [v] = some (d, ps) := by
  cases fuel with
  | zero => simp [DataW.trod] at h
  | succ fuel =>
    unfold DataW.trod at h
    rw [hu] at h
    simp only at h
    split at h; rotate_left; · cases h
    rename_i hl
    obtain ⟨xs, hx, he⟩ := Option.map_eq_some_iff.1 h
    obtain ⟨l2, h2⟩ := opt_mapM hx
    simp only [Prod.mk.injEq, DataW.agg.injEq] at he
    obtain ⟨rfl, _⟩ := he
    simp only [List.length_range] at l2
    rw [ht] at hl
    refine ⟨hl, by simp [l2], fuel, fun i v d hv hd => ?_⟩
    have hi : i < n := by rw [← hl]; exact (List.getElem?_eq_some_iff.1 hv).1
    obtain ⟨y, hy, hd'⟩ := h2 i i (by simp [hi])
    simp only [List.getElem?_map, hy, Option.map_some, Option.some.injEq] at hd
    subst hd
    rw [hc, Nat.mul_one] at hd'
    have e1 : (cs.drop i).take 1 = [v] := by
      obtain ⟨h0, h1⟩ := List.getElem?_eq_some_iff.1 hv
      rw [List.drop_eq_getElem_cons h0, h1]
      rfl
    rw [e1] at hd'
    exact ⟨y.2, hd'⟩

theorem RC_strs {t e n : Nat} (hu : P.underlying t = some (.array n e)) (hs : P.underlying e = some .string) (hc : P.cellsOf e = 1) (ht : P.cellsOf t = n) {fuel : Nat} {cs : List Value} {l : List ByteArray} {ps : List MemPlace}
    (h : DataW.trod enc P W 0 sp held fuel t cs = some (.agg (l.map fun s => .lit (.string s.data.toList)), ps)) : RC g0 W (l.map D.str) cs := by
  obtain ⟨h1, h2, fuel', h3⟩ := trod_array1 hu hc ht h
  rw [List.length_map] at h2
  refine RC_of (by rw [List.length_map, h1, h2]) fun i d v hd hv => ?_
  obtain ⟨s, hs', rfl⟩ : ∃ s, l[i]? = some s ∧ D.str s = d := by simpa using hd
  obtain ⟨ps', h4⟩ := h3 i v (.lit (.string s.data.toList)) hv (by simp only [List.getElem?_map, hs', Option.map_some])
  cases fuel' with
  | zero => simp [DataW.trod] at h4
  | succ fuel' =>
    unfold DataW.trod at h4
    rw [hs] at h4
    cases v <;> simp at h4
    rename_i s2
    obtain ⟨_, he, _⟩ := h4
    have : s2 = s := by
      cases s2
      cases s
      simp only at he
      rw [he]
    subst this
    simp only [R]
    exact ⟨rfl, trivial⟩

theorem RC_ints {t e n : Nat} {k : IntKind} (hu : P.underlying t = some (.array n e)) (hs : P.underlying e = some (.int k)) (hc : P.cellsOf e = 1) (ht : P.cellsOf t = n) {fuel : Nat} {cs : List Value} {l : List Int} {ps : List MemPlace}
    (h : DataW.trod enc P W 0 sp held fuel t cs = some (.agg (l.map fun z => .lit (.int k z)), ps)) : RC g0 W (l.map fun z => D.int k z) cs := by
  obtain ⟨h1, h2, fuel', h3⟩ := trod_array1 hu hc ht h
  rw [List.length_map] at h2
  refine RC_of (by rw [List.length_map, h1, h2]) fun i d v hd hv => ?_
  obtain ⟨z, hz, rfl⟩ : ∃ z, l[i]? = some z ∧ D.int k z = d := by simpa using hd
  obtain ⟨ps', h4⟩ := h3 i v (.lit (.int k z)) hv (by simp only [List.getElem?_map, hz, Option.map_some])
  cases fuel' with
  | zero => simp [DataW.trod] at h4
  | succ fuel' =>
    unfold DataW.trod at h4
    rw [hs] at h4
    cases v <;> simp at h4
    obtain ⟨⟨rfl, _⟩, rfl, _⟩ := h4
    simp only [R]
    exact ⟨rfl, trivial⟩

theorem RC_iface {t : Nat} {ms : Array (String × TypeId)} (hu : P.underlying t = some (.interface ms)) {fuel : Nat} {cs : List Value} {name : String} {d : DataW H} {ps : List MemPlace}
    (h : DataW.trod enc P W 0 sp false fuel t cs = some (.iface name d, ps)) : ∃ u, RC g0 W [.iface u .undef] cs := by
  obtain ⟨_, u, v, rfl, _, _⟩ := iface_of_trod hu h
  refine ⟨u, RC_of rfl fun i d v' hd hv => ?_⟩
  cases i with
  | zero =>
    simp only [List.getElem?_cons_zero, Option.some.injEq] at hd hv
    subst hd
    subst hv
    simp only [R]
    exact ⟨rfl, v, rfl, trivial⟩
  | succ i => simp at hd

end

end Go.Hl
set_option linter.unusedVariables false
set_option maxRecDepth 100000
namespace Go.Proofs.YtijcddlahidhhaaDoor
open Go Go.Hl Go.RowKit Go.ChangeShapes Go.WideShapes Go.ChangeAt

def laidL : List (String × DataW Unit) := [("math/bits.deBruijn32tab", Rows.laid_math_bits_deBruijn32tab), ("math/bits.deBruijn64tab", Rows.laid_math_bits_deBruijn64tab), ("internal/strconv.uint64pow10", Rows.laid_internal_strconv_uint64pow10), ("strconv.ErrRange", Rows.laid_strconv_ErrRange), ("strconv.ErrSyntax", Rows.laid_strconv_ErrSyntax), ("namesake/sign.words", Rows.laid_namesake_sign_words)]

def glK (t1 t2 : Nat) (m : Int) (k : Nat) : Option (List D) :=
  if k = 0 then some (kwS.map D.str)
  else if k = 2 then some [.iface t1 .undef]
  else if k = 3 then some [.iface t2 .undef]
  else if k = 4 then some (Lib.pow10Tab.map fun z => .int .u64 z)
  else if k = 1 then some [.int .i64 m]
  else none

theorem start_of {W : World} (h : laidMet Tryd.prog laidL W) (hsh : W.ShapedOpen Tryd.prog) : ∃ σ, GM σ ∧ Rel Tryd.prog g0 σ W := by
  obtain ⟨m, hm⟩ := Go.Proofs.cell_of_shapedOpen_int (g := 1) (zero := #[.int .i64 0]) (t := 3) hsh (of_decide_eq_true (by kernel_rfl)) (by kernel_rfl) rfl (by kernel_rfl) (by kernel_rfl) Tryd.underlying3
  obtain ⟨ps, ⟨_, _, _, _, _, _, _, _, _, _, ⟨_, _, _, _, _, _, _, _, _, _, ⟨gp, tp, cp, fp, pp, qp, hgp, htp, hvp, hdp, ⟨gr, tr, cr, fr, pr, qr, hgr, htr, hvr, hdr, ⟨gs, ts, cs, fs, ps', qs, hgs, hts, hvs, hds, ⟨gw, tw, cw, fw, pw, qw, hgw, htw, hvw, hdw, _⟩, _⟩, _⟩, _⟩, _⟩, _⟩, _⟩ := h
  obtain rfl := Option.some.inj ((show Tryd.prog.globalNamed "internal/strconv.uint64pow10" = some 4 by kernel_rfl).symm.trans hgp)
  obtain rfl := Option.some.inj ((show Tryd.prog.globalNamed "strconv.ErrRange" = some 3 by kernel_rfl).symm.trans hgr)
  obtain rfl := Option.some.inj ((show Tryd.prog.globalNamed "strconv.ErrSyntax" = some 2 by kernel_rfl).symm.trans hgs)
  obtain rfl := Option.some.inj ((show Tryd.prog.globalNamed "namesake/sign.words" = some 0 by kernel_rfl).symm.trans hgw)
  obtain rfl := Option.some.inj ((show (Tryd.prog.globals[4]?).map (·.type) = some 135 by kernel_rfl).symm.trans htp)
  obtain rfl := Option.some.inj ((show (Tryd.prog.globals[3]?).map (·.type) = some 25 by kernel_rfl).symm.trans htr)
  obtain rfl := Option.some.inj ((show (Tryd.prog.globals[2]?).map (·.type) = some 25 by kernel_rfl).symm.trans hts)
  obtain rfl := Option.some.inj ((show (Tryd.prog.globals[0]?).map (·.type) = some 105 by kernel_rfl).symm.trans htw)
  obtain ⟨ms, hms⟩ : ∃ ms, Tryd.prog.underlying 25 = some (.interface ms) := isIface_spec (by kernel_rfl)
  obtain ⟨t1, r1⟩ := RC_iface hms hds
  obtain ⟨t2, r2⟩ := RC_iface hms hdr
  have r4 : RC g0 W (Lib.pow10Tab.map fun z => D.int .u64 z) cp.toList := RC_ints (l := Lib.pow10Tab) (show Tryd.prog.underlying 135 = some (.array 20 119) by kernel_rfl) (show Tryd.prog.underlying 119 = some (.int .u64) by kernel_rfl) (by kernel_rfl) (by kernel_rfl) hdp
  have r0 : RC g0 W (kwS.map D.str) cw.toList := RC_strs (l := kwS) (show Tryd.prog.underlying 105 = some (.array 18 9) by kernel_rfl) (show Tryd.prog.underlying 9 = some .string by kernel_rfl) (by kernel_rfl) (by kernel_rfl) hdw
  refine ⟨σG (glK t1 t2 m), ⟨⟨rfl, ⟨_, rfl⟩, ⟨_, rfl⟩, rfl⟩, ⟨_, rfl⟩⟩, relG fun k c hk => ?_⟩
  unfold glK at hk
  split at hk
  · rename_i e; subst e
    obtain rfl := Option.some.inj hk
    obtain ⟨e, z, hh⟩ := var_heap hgw hvw
    exact ⟨_, e, z, hh, r0⟩
  split at hk
  · rename_i e; subst e
    obtain rfl := Option.some.inj hk
    obtain ⟨e, z, hh⟩ := var_heap hgs hvs
    exact ⟨_, e, z, hh, r1⟩
  split at hk
  · rename_i e; subst e
    obtain rfl := Option.some.inj hk
    obtain ⟨e, z, hh⟩ := var_heap hgr hvr
    exact ⟨_, e, z, hh, r2⟩
  split at hk
  · rename_i e; subst e
    obtain rfl := Option.some.inj hk
    obtain ⟨e, z, hh⟩ := var_heap hgp hvp
    exact ⟨_, e, z, hh, r4⟩
  split at hk
  · rename_i e; subst e
    obtain rfl := Option.some.inj hk
    obtain ⟨cs, hh, hs, _⟩ := hsh.1 1 #[.int .i64 0] 3 (of_decide_eq_true (by kernel_rfl)) (by kernel_rfl)
    have hs' : cs.size = 1 := hs
    have hm' : cs[0]? = some (.int .i64 m) := by
      unfold World.cell? at hm
      rw [hh] at hm
      simpa using hm
    obtain ⟨l⟩ := cs
    simp only [List.size_toArray] at hs'
    match l, hs' with
    | [v], _ =>
      simp only [List.getElem?_toArray, List.getElem?_cons_zero, Option.some.injEq] at hm'
      subst hm'
      exact ⟨_, _, _, hh, by simp only [RC, R]; exact ⟨_, _, rfl, ⟨rfl, rfl⟩, rfl⟩⟩
  · cases hk

def rangeS : ByteArray := ⟨#[118, 97, 108, 117, 101, 32, 111, 117, 116, 32, 111, 102, 32, 114, 97, 110, 103, 101]⟩
def syntaxS : ByteArray := ⟨#[105, 110, 118, 97, 108, 105, 100, 32, 115, 121, 110, 116, 97, 120]⟩

def litV : DataW Unit → Value
  | .lit (.int k n) => .int k n
  | .lit (.string bs) => .string ⟨bs.toArray⟩
  | _ => .nilIface
def aggV : DataW Unit → Array Value
  | .agg ds => (ds.map litV).toArray
  | _ => #[]
def setC (cs : Array Value) : Obj → Obj
  | .cells _ t frozen => .cells cs t frozen
  | o => o

noncomputable def low : Nat := (World.holding Tryd.prog default ⟨#[], #[], []⟩).heap.size

noncomputable def laidWorld (os : Os) : World :=
  let w0 := World.holding Tryd.prog os ⟨#[.cells #[.string rangeS] 133, .cells #[.string syntaxS] 133], #[], []⟩
  { w0 with heap := (((((w0.heap.modify 0 (setC (aggV Rows.laid_namesake_sign_words))).modify 4 (setC (aggV Rows.laid_internal_strconv_uint64pow10))).modify 5 (setC (aggV Rows.laid_math_bits_deBruijn32tab))).modify 6 (setC (aggV Rows.laid_math_bits_deBruijn64tab))).modify 3 (setC #[.iface 131 (.pointer (some ⟨low, 0, none⟩))])).modify 2 (setC #[.iface 131 (.pointer (some ⟨low + 1, 0, none⟩))]) }

theorem laidWorld_met (os : Os) (args : Array Value) : laidMetH Tryd.prog laidL ((laidWorld os).forCall (fun _ _ => 0) ⟨#[], args, []⟩).memory :=
  show laidMet Tryd.prog laidL _ from laidMet_of_run' 8 (by kernel_rfl) (by kernel_rfl)

theorem returns_shaped {H : Type} {enc : TypeId × Value → H} {a : Assume} {C : Checked} {os : Os} {f : FuncId} {fn : Func} {s : ChangeSpec} {conds : List PathCond} {apart fresh handsOn again : Bool} {X : World → Array Value → Prop}
    (hX : ∀ (w w' : World) (args : Array Value), w.heap = w'.heap → X w args → X w' args)
    (own : ownKnob C.prog.godebug = none) (started : os.Started) (noInit : C.prog.inits.idxOf? f = none) (hfn : C.prog.funcs[f]? = some fn)
    (witness : ∃ (w : World) (tape : Tape) (i : Input), w.os = os ∧ (w.forCall tape i).Shaped C.prog ∧ i.vars = [] ∧ Input.okWide C.prog (w.forCall tape i) .any w.heap.size f i ∧
      ((s.pre enc C.prog fn conds apart (w.forCall tape i).memory i.args ∧ X (w.forCall tape i).memory i.args) ∧ sizedMet enc C.prog fn (OpenSpec.ofChange s) apart (w.forCall tape i).memory i.args) ∧ a.holds C.prog (lone (Frame.enter C.prog f i.args .normal) [] (w.forCall tape i)))
    (contract : ∀ (W : World) (base : Nat) (args : Array Value) (ds gs : List (DataW H)) (before : List MemPlace), W.ShapedOpen C.prog →
      (∀ (j : Nat) t v, fn.params[j]? = some t → args[j]? = some v → Value.okWide C.prog W .any base t v) →
      DataW.Whole enc C.prog fn.params.toList s.vars apart W args.toList ds gs before →
      (DataW.weightsEach C.prog (fn.params.toList ++ s.plain.varTypes C.prog) (ds ++ gs)).all (· ≤ reachBytes) = true → X W args →
      Calls C.prog f args W fun e W' => ∃ v, e = .returned v ∧ s.post enc C.prog fn apart fresh handsOn again W args v W') :
    ReturnsInHanded a C os f .any (fun w args => (s.pre enc C.prog fn conds apart w args ∧ X w args) ∧ sizedMet enc C.prog fn (OpenSpec.ofChange s) apart w args) (s.post enc C.prog fn apart fresh handsOn again) := by
  refine returnsInHanded_of_calls own started noInit witness ?_
  intro w tape i _ hsh _ hok hpre _
  obtain ⟨_, _, _, fn', hfn', _, _, _, _, hval⟩ := hok
  obtain rfl : fn' = fn := Option.some.inj (hfn'.symm.trans hfn)
  obtain ⟨⟨⟨ds, gs, before, hw, _⟩, hx⟩, hz⟩ := hpre
  refine (contract (w.forCall tape i) w.heap.size i.args ds gs before hsh hval (DataW.Whole.of_heap (w' := w.forCall tape i) (by rfl) hw) (hz.weights hw) (hX _ _ _ (by rfl) hx)).mono ?_
  rintro e W' ⟨v, rfl, hp⟩
  exact ChangeSpec.post_blind hp

end Go.Proofs.YtijcddlahidhhaaDoor
