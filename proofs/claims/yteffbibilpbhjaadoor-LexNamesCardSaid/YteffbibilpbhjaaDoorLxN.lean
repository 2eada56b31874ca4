/-
  Layer 6: the law LexNames: what stands behind the choice of a name.
-/
import Derived.Test.YteffbibilpbhjaaDoorLxM
set_option linter.unusedSectionVars false
set_option linter.unusedVariables false
set_option linter.unusedSimpArgs false
set_option maxRecDepth 100000
namespace Go.Hl
open Go Go.Proofs Go.RowKit

abbrev lnmPost (M : Md) : HPost := FPost M.gS.next [HR.tmp 6] (fun d x => d = D.bool true)
def lnmC : HC := tlC (tlC (tlC (tlC (tlC (tlC (tlC (tlC h4.body)))))))

structure LmH (M : Md) (σ τ : St) (s nm : ByteArray) : Prop where
  hP : M.P = Tryd.prog
  hr : M.r = none
  hnt : M.nt = h4.nt
  hnx : M.gS.next = σ.next
  hwf : σ.wf
  hs : s.size ≤ 2000
  hm : nm.size ≤ 64
  he : Ext σ τ
  hwt : τ.wf
  hg : GM τ
  hn : NmOk nm.data.toList

theorem ren_text (a nm : ByteArray) : (a ++ nm).extract a.size (a.size + nm.size) = nm := ByteArray.extract_append_eq_right rfl rfl

theorem renV (s nm : ByteArray) (hn : NmOk nm.data.toList) (k : Nat) (hk : k < (toks s.data.toList 0).length) (h4 : ((toks s.data.toList 0)[k]).k = 4) :
    ∃ (f t : Nat) (V : List Tk3), (toks s.data.toList 0)[k] = ⟨4, f, t⟩ ∧ f < t ∧ t ≤ s.size ∧ toks ((s.extract 0 f ++ nm) ++ s.extract t s.size).data.toList 0 = V ∧ V.length = (toks s.data.toList 0).length ∧
      (∀ (i : Nat) (h : i < k) (h1 : i < V.length) (h2 : i < (toks s.data.toList 0).length), V[i] = (toks s.data.toList 0)[i]) ∧ (∀ h1 : k < V.length, V[k] = ⟨4, f, f + nm.size⟩) ∧
      (∀ (i : Nat) (h : k < i) (h1 : i < V.length) (h2 : i < (toks s.data.toList 0).length), ∃ x : Tk3, (toks s.data.toList 0)[i] = ⟨x.k, x.f + t, x.t + t⟩ ∧ V[i] = ⟨x.k, x.f + (f + nm.size), x.t + (f + nm.size)⟩) := by
  obtain ⟨f, t, P, w1, w2, w3, w4, w5⟩ := renS s nm hn k hk h4
  generalize toks s.data.toList 0 = W at *
  have hPl : P.length = W.length - (k + 1) := by
    have := congrArg List.length w4
    rw [List.length_drop, List.length_map] at this
    exact this.symm
  refine ⟨f, t, _, w1, w2, w3, w5, ?_, fun i h h1 h2 => ?_, fun h1 => ?_, fun i h h1 h2 => ?_⟩
  · simp only [List.length_append, List.length_take, List.length_cons, List.length_map]
    omega
  · rw [List.getElem_append_left (by rw [List.length_take]; omega), List.getElem_take]
  · rw [List.getElem_append_right (by rw [List.length_take]; omega)]
    simp only [List.length_take, Nat.min_eq_left (Nat.le_of_lt hk), Nat.sub_self, List.getElem_cons_zero]
  · refine ⟨P[i - (k + 1)]'(by omega), ?_, ?_⟩
    · have : W[i] = (W.drop (k + 1))[i - (k + 1)]'(by rw [List.length_drop]; omega) := by
        rw [List.getElem_drop]
        congr 1
        omega
      rw [this]
      have e : ∀ (v : List Tk3) (hv : v = P.map fun x => (⟨x.k, x.f + t, x.t + t⟩ : Tk3)) (j : Nat) (h1 : j < v.length) (h2 : j < P.length), v[j] = ⟨P[j].k, P[j].f + t, P[j].t + t⟩ := by
        rintro v rfl j h1 h2
        rw [List.getElem_map]
      exact e _ w4 _ _ _
    · rw [List.getElem_append_right (by rw [List.length_take]; omega)]
      have e0 : i - (W.take k).length = (i - (k + 1)) + 1 := by rw [List.length_take]; omega
      simp only [e0, List.getElem_cons_succ, List.getElem_map]

set_option maxHeartbeats 4000000 in
theorem namesC_ok (s nm : ByteArray) (k : Nat) (σ τ : St) (M : Md) (H : LmH M σ τ s nm) (hk : k < (toks s.data.toList 0).length) (hk4 : ((toks s.data.toList 0)[k]).k = 4) :
    HX M (lnmPost M) [.code lnmC] [(0, .str s), (1, .str nm), (7, .slice .no 3 (encTk (toks s.data.toList 0))), (11, .int .i64 (k : Int))] τ := by
  obtain ⟨hP, hr, hnt, hnx, hwf, hs, hm, hE, hwt, hg, hn⟩ := H
  have hnt' : M.nt = 221 := hnt
  have hle := toks_le s
  obtain ⟨f, t, V, w1, w2, w3, w5, hMl, m1, m2, m3⟩ := renV s nm hn k hk hk4
  have hz : ((s.extract 0 f ++ nm) ++ s.extract t s.size).size ≤ 5000 := by
    simp only [ByteArray.size_append, ByteArray.size_extract]; omega
  have hlc := list_calls ((s.extract 0 f ++ nm) ++ s.extract t s.size) (by omega) τ hg
  rw [w5] at hlc
  have toks_hi : ∀ (i : Nat) (h : i < (toks s.data.toList 0).length), ((toks s.data.toList 0)[i]).f < ((toks s.data.toList 0)[i]).t ∧ ((toks s.data.toList 0)[i]).t ≤ s.size := fun i h => by
    have := toksS s _ (List.getElem_mem h)
    omega
  generalize toks s.data.toList 0 = W at *
  have m2 := m2 (by omega)
  have hgk := encTk_get W k hk
  rw [w1] at hgk
  have hki : (k : Int) < (W.length : Int) := by omega
  have p1 : (0 : Int) ≤ (f : Int) ∧ (f : Int) ≤ (s.size : Int) ∧ (0 : Int) ≤ (t : Int) ∧ (t : Int) ≤ (s.size : Int) := by omega
  have q1 : (s.extract 0 f).size + nm.size ≤ 9223372036854775807 ∧ (s.extract 0 f ++ nm).size + (s.extract t s.size).size ≤ 9223372036854775807 := by
    simp only [ByteArray.size_append, ByteArray.size_extract]; omega
  have d1 : decide ((f : Int) < 0) = false := decide_eq_false (by omega)
  have d2 : decide ((f : Int) > (t : Int)) = false := decide_eq_false (by omega)
  have d3 : decide ((t : Int) > (s.size : Int)) = false := decide_eq_false (by omega)
  simp only [lnmC, h4, tlC]
  refine hgo_sound 60 ?_
  simp -implicitDefEqProofs (maxSteps := 1000000) only [simpS, ↓condJ_true, ↓condJ_false, ↓reduceIte, Nat.reduceEqDiff, Nat.reduceLT, Nat.reduceLeDiff, reduceCtorEq, Nat.reduceAdd, Nat.reduceSub, bindG_none, addG_none, hgrpK_none, nestK_none, hgrpK_guarded, Option.map_none, beq_self_eq_true, bne_self_eq_false, Option.map_some, if_true, if_false, List.getD_cons_zero, List.getD_cons_succ, List.length_cons, List.length_nil, List.mem_cons, List.not_mem_nil, List.mem_append, List.nil_append, List.cons_append, List.append_nil, List.take_succ_cons, List.take_zero, List.drop_succ_cons, List.drop_zero, List.set_cons_zero, List.set_cons_succ, List.map_cons, List.map_nil, implies_true, forall_const, ne_eq]
  refine hx_drawgo 1 ?_
  simp -implicitDefEqProofs (maxSteps := 100000000) only [drawS, List.map_cons, List.map_nil, List.getElem?_cons_zero, List.getElem?_cons_succ, List.getElem?_nil, simpS, ↓condJ_true, ↓condJ_false, ↓reduceIte, Nat.reduceEqDiff, Nat.reduceLT, Nat.reduceLeDiff, reduceCtorEq, Nat.reduceAdd, Nat.reduceSub, bindG_none, addG_none, hgrpK_none, nestK_none, hgrpK_guarded, Option.map_none, beq_self_eq_true, bne_self_eq_false, Option.map_some, if_true, if_false, List.getD_cons_zero, List.getD_cons_succ, List.length_cons, List.length_nil, List.mem_cons, List.not_mem_nil, List.mem_append, List.nil_append, List.cons_append, List.append_nil, List.take_succ_cons, List.take_zero, List.drop_succ_cons, List.drop_zero, List.set_cons_zero, List.set_cons_succ, List.map_cons, List.map_nil, implies_true, forall_const, ne_eq, hnt', d1, d2, d3, hki, hk, hgk, p1.1, p1.2.1, p1.2.2.1, p1.2.2.2, q1.1, q1.2, encTk_length, Int.toNat_natCast, Int.natCast_nonneg]
  refine hgo_sound 60 ?_
  simp -implicitDefEqProofs (maxSteps := 1000000) only [simpS, ↓condJ_true, ↓condJ_false, ↓reduceIte, Nat.reduceEqDiff, Nat.reduceLT, Nat.reduceLeDiff, reduceCtorEq, Nat.reduceAdd, Nat.reduceSub, bindG_none, addG_none, hgrpK_none, nestK_none, hgrpK_guarded, Option.map_none, beq_self_eq_true, bne_self_eq_false, Option.map_some, if_true, if_false, List.getD_cons_zero, List.getD_cons_succ, List.length_cons, List.length_nil, List.mem_cons, List.not_mem_nil, List.mem_append, List.nil_append, List.cons_append, List.append_nil, List.take_succ_cons, List.take_zero, List.drop_succ_cons, List.drop_zero, List.set_cons_zero, List.set_cons_succ, List.map_cons, List.map_nil, implies_true, forall_const, ne_eq]
  refine hx_drawgo 1 ?_
  simp -implicitDefEqProofs (maxSteps := 100000000) only [drawS, List.map_cons, List.map_nil, List.getElem?_cons_zero, List.getElem?_cons_succ, List.getElem?_nil, simpS, ↓condJ_true, ↓condJ_false, ↓reduceIte, Nat.reduceEqDiff, Nat.reduceLT, Nat.reduceLeDiff, reduceCtorEq, Nat.reduceAdd, Nat.reduceSub, bindG_none, addG_none, hgrpK_none, nestK_none, hgrpK_guarded, Option.map_none, beq_self_eq_true, bne_self_eq_false, Option.map_some, if_true, if_false, List.getD_cons_zero, List.getD_cons_succ, List.length_cons, List.length_nil, List.mem_cons, List.not_mem_nil, List.mem_append, List.nil_append, List.cons_append, List.append_nil, List.take_succ_cons, List.take_zero, List.drop_succ_cons, List.drop_zero, List.set_cons_zero, List.set_cons_succ, List.map_cons, List.map_nil, implies_true, forall_const, ne_eq, hnt', hki, hk, hgk, p1.1, p1.2.1, p1.2.2.1, p1.2.2.2, q1.1, q1.2, encTk_length, Int.toNat_natCast, Int.natCast_nonneg]
  refine hd_call (i := 17) (f := .fn 12) (by simp -implicitDefEqProofs (maxSteps := 100000000) only [drawS, List.map_cons, List.map_nil, List.getElem?_cons_zero, List.getElem?_cons_succ, List.getElem?_nil, simpS, ↓condJ_true, ↓condJ_false, ↓reduceIte, Nat.reduceEqDiff, Nat.reduceLT, Nat.reduceLeDiff, reduceCtorEq, Nat.reduceAdd, Nat.reduceSub, bindG_none, addG_none, hgrpK_none, nestK_none, hgrpK_guarded, Option.map_none, beq_self_eq_true, bne_self_eq_false, Option.map_some, if_true, if_false, List.getD_cons_zero, List.getD_cons_succ, List.length_cons, List.length_nil, List.mem_cons, List.not_mem_nil, List.mem_append, List.nil_append, List.cons_append, List.append_nil, List.take_succ_cons, List.take_zero, List.drop_succ_cons, List.drop_zero, List.set_cons_zero, List.set_cons_succ, List.map_cons, List.map_nil, implies_true, forall_const, ne_eq, hnt', hki, hk, hgk, p1.1, p1.2.1, p1.2.2.1, p1.2.2.2, q1.1, q1.2, encTk_length, Int.toNat_natCast, Int.natCast_nonneg]) (by rfl) (by rfl) rfl (by rfl) (by rw [hP]; exact hcallD_func (hlc)) ?_
  rintro _ σ2 ⟨rfl, h⟩
  subst σ2
  refine hdgo_sound 1 ?_
  simp -implicitDefEqProofs (maxSteps := 3000000) only [drawS, List.map_cons, List.map_nil, List.getElem?_cons_zero, List.getElem?_cons_succ, List.getElem?_nil, simpS, ↓condJ_true, ↓condJ_false, ↓reduceIte, Nat.reduceEqDiff, Nat.reduceLT, Nat.reduceLeDiff, reduceCtorEq, Nat.reduceAdd, Nat.reduceSub, bindG_none, addG_none, hgrpK_none, nestK_none, hgrpK_guarded, Option.map_none, beq_self_eq_true, bne_self_eq_false, Option.map_some, if_true, if_false, List.getD_cons_zero, List.getD_cons_succ, List.length_cons, List.length_nil, List.mem_cons, List.not_mem_nil, List.mem_append, List.nil_append, List.cons_append, List.append_nil, List.take_succ_cons, List.take_zero, List.drop_succ_cons, List.drop_zero, List.set_cons_zero, List.set_cons_succ, List.map_cons, List.map_nil, implies_true, forall_const, ne_eq, hnt', hki, hk, hgk, p1.1, p1.2.1, p1.2.2.1, p1.2.2.2, q1.1, q1.2, encTk_length, Int.toNat_natCast, Int.natCast_nonneg]
  have hbn : ((V.length : Int) != (W.length : Int)) = false := by rw [hMl]; simp
  have hw1 : IntKind.i64.wrap ((t : Int) - (f : Int)) = (t : Int) - (f : Int) := IntWalk.i64_in _ (by omega)
  have hw2 : IntKind.i64.wrap ((nm.size : Int) - ((t : Int) - (f : Int))) = (nm.size : Int) - ((t : Int) - (f : Int)) := IntWalk.i64_in _ (by omega)
  refine hgo_sound 60 ?_
  simp -implicitDefEqProofs (maxSteps := 1000000) only [simpS, ↓condJ_true, ↓condJ_false, ↓reduceIte, Nat.reduceEqDiff, Nat.reduceLT, Nat.reduceLeDiff, reduceCtorEq, Nat.reduceAdd, Nat.reduceSub, bindG_none, addG_none, hgrpK_none, nestK_none, hgrpK_guarded, Option.map_none, beq_self_eq_true, bne_self_eq_false, Option.map_some, if_true, if_false, List.getD_cons_zero, List.getD_cons_succ, List.length_cons, List.length_nil, List.mem_cons, List.not_mem_nil, List.mem_append, List.nil_append, List.cons_append, List.append_nil, List.take_succ_cons, List.take_zero, List.drop_succ_cons, List.drop_zero, List.set_cons_zero, List.set_cons_succ, List.map_cons, List.map_nil, implies_true, forall_const, ne_eq, hbn, encTk_length]
  refine hx_drawgo 1 ?_
  simp -implicitDefEqProofs (maxSteps := 100000000) only [drawS, List.map_cons, List.map_nil, List.getElem?_cons_zero, List.getElem?_cons_succ, List.getElem?_nil, simpS, ↓condJ_true, ↓condJ_false, ↓reduceIte, Nat.reduceEqDiff, Nat.reduceLT, Nat.reduceLeDiff, reduceCtorEq, Nat.reduceAdd, Nat.reduceSub, bindG_none, addG_none, hgrpK_none, nestK_none, hgrpK_guarded, Option.map_none, beq_self_eq_true, bne_self_eq_false, Option.map_some, if_true, if_false, List.getD_cons_zero, List.getD_cons_succ, List.length_cons, List.length_nil, List.mem_cons, List.not_mem_nil, List.mem_append, List.nil_append, List.cons_append, List.append_nil, List.take_succ_cons, List.take_zero, List.drop_succ_cons, List.drop_zero, List.set_cons_zero, List.set_cons_succ, List.map_cons, List.map_nil, implies_true, forall_const, ne_eq, hnt', hw1, hw2, hki, hk, hgk, p1.1, p1.2.1, p1.2.2.1, p1.2.2.2, q1.1, q1.2, encTk_length, Int.toNat_natCast, Int.natCast_nonneg]
  refine hgo_sound 60 ?_
  simp -implicitDefEqProofs (maxSteps := 1000000) only [simpS, ↓condJ_true, ↓condJ_false, ↓reduceIte, Nat.reduceEqDiff, Nat.reduceLT, Nat.reduceLeDiff, reduceCtorEq, Nat.reduceAdd, Nat.reduceSub, bindG_none, addG_none, hgrpK_none, nestK_none, hgrpK_guarded, Option.map_none, beq_self_eq_true, bne_self_eq_false, Option.map_some, if_true, if_false, List.getD_cons_zero, List.getD_cons_succ, List.length_cons, List.length_nil, List.mem_cons, List.not_mem_nil, List.mem_append, List.nil_append, List.cons_append, List.append_nil, List.take_succ_cons, List.take_zero, List.drop_succ_cons, List.drop_zero, List.set_cons_zero, List.set_cons_succ, List.map_cons, List.map_nil, implies_true, forall_const, ne_eq, encTk_length]
  refine hx_know_code fun hw hl hnn => ?_
  generalize hby : (nm.size : Int) - ((t : Int) - (f : Int)) = by_ at *
  refine hx_loop (S := RnI) (fun u => [(0, .str s), (1, .str nm), (7, .slice .no 3 (encTk W)), (11, .int .i64 (k : Int)), (12, .slice .no 3 (encTk V)), (13, .int .i64 by_), (140, .slice .no 3 (encTk W)), (141, .int .i64 (W.length : Int)), (142, .int .i64 (u.i : Int))]) (fun u => τ)
    (fun u => u.i ≤ W.length) (fun u => W.length - u.i) ⟨0⟩ (Nat.zero_le _) (fun _ _ h => by rw [hr] at h; cases h) ?_ ?_
  · exact Drop.all hw hnn ⟨⟨rfl, trivial⟩, ⟨rfl, trivial⟩, ⟨rfl, encTk_slt _ _⟩, ⟨rfl, trivial⟩, ⟨rfl, encTk_slt _ _⟩, ⟨rfl, trivial⟩, ⟨rfl, encTk_slt _ _⟩, ⟨rfl, trivial⟩, ⟨rfl, trivial⟩, trivial⟩
  rintro ⟨i⟩ i1
  simp only at i1 ⊢
  by_cases hi : i < W.length
  · have hd : decide ((i : Int) < (W.length : Int)) = true := decide_eq_true (by omega)
    have hi' : (i : Int) < (W.length : Int) := by omega
    have hiv : (i : Int) < (V.length : Int) := by omega
    have hiv2 : i < V.length := by omega
    have hgi := encTk_get W i hi
    have hgv := encTk_get V i hiv2
    have hwi : IntKind.i64.wrap ((i : Int) + 1) = ((i + 1 : Nat) : Int) := by rw [IntWalk.i64_in _ (by omega)]; rfl
    rcases Nat.lt_trichotomy i k with c | c | c
    · have b1 : decide ((i : Int) < (k : Int)) = true := decide_eq_true (by omega)
      have b2 : ((i : Int) == (k : Int)) = false := by simp only [beq_eq_false_iff_ne, ne_eq]; omega
      have b3 : decide ((i : Int) > (k : Int)) = false := decide_eq_false (by omega)
      rw [m1 i c hiv2 hi] at hgv
      refine hgo_sound 60 ?_
      simp -implicitDefEqProofs (maxSteps := 1000000) only [simpS, ↓condJ_true, ↓condJ_false, ↓reduceIte, Nat.reduceEqDiff, Nat.reduceLT, Nat.reduceLeDiff, reduceCtorEq, Nat.reduceAdd, Nat.reduceSub, bindG_none, addG_none, hgrpK_none, nestK_none, hgrpK_guarded, Option.map_none, beq_self_eq_true, bne_self_eq_false, Option.map_some, if_true, if_false, List.getD_cons_zero, List.getD_cons_succ, List.length_cons, List.length_nil, List.mem_cons, List.not_mem_nil, List.mem_append, List.nil_append, List.cons_append, List.append_nil, List.take_succ_cons, List.take_zero, List.drop_succ_cons, List.drop_zero, List.set_cons_zero, List.set_cons_succ, List.map_cons, List.map_nil, implies_true, forall_const, ne_eq, hd, hi', hi, hgi, encTk_length, Int.toNat_natCast, Int.natCast_nonneg]
      refine hx_drawgo 2 ?_
      simp -implicitDefEqProofs (maxSteps := 100000000) only [drawS, List.map_cons, List.map_nil, List.getElem?_cons_zero, List.getElem?_cons_succ, List.getElem?_nil, simpS, ↓condJ_true, ↓condJ_false, ↓reduceIte, Nat.reduceEqDiff, Nat.reduceLT, Nat.reduceLeDiff, reduceCtorEq, Nat.reduceAdd, Nat.reduceSub, bindG_none, addG_none, hgrpK_none, nestK_none, hgrpK_guarded, Option.map_none, beq_self_eq_true, bne_self_eq_false, Option.map_some, if_true, if_false, List.getD_cons_zero, List.getD_cons_succ, List.length_cons, List.length_nil, List.mem_cons, List.not_mem_nil, List.mem_append, List.nil_append, List.cons_append, List.append_nil, List.take_succ_cons, List.take_zero, List.drop_succ_cons, List.drop_zero, List.set_cons_zero, List.set_cons_succ, List.map_cons, List.map_nil, implies_true, forall_const, ne_eq, hnt', b1, b2, b3, hi', hi, hiv, hiv2, hgi, hgv, encTk_length, Int.toNat_natCast, Int.natCast_nonneg]
      refine hgo_sound 60 ?_
      simp -implicitDefEqProofs (maxSteps := 1000000) only [simpS, ↓condJ_true, ↓condJ_false, ↓reduceIte, Nat.reduceEqDiff, Nat.reduceLT, Nat.reduceLeDiff, reduceCtorEq, Nat.reduceAdd, Nat.reduceSub, bindG_none, addG_none, hgrpK_none, nestK_none, hgrpK_guarded, Option.map_none, beq_self_eq_true, bne_self_eq_false, Option.map_some, if_true, if_false, List.getD_cons_zero, List.getD_cons_succ, List.length_cons, List.length_nil, List.mem_cons, List.not_mem_nil, List.mem_append, List.nil_append, List.cons_append, List.append_nil, List.take_succ_cons, List.take_zero, List.drop_succ_cons, List.drop_zero, List.set_cons_zero, List.set_cons_succ, List.map_cons, List.map_nil, implies_true, forall_const, ne_eq, hwi]
      intro hw5 hl5 hn5
      refine ⟨⟨i + 1⟩, by simp only; omega, by simp only; omega, ?_⟩
      exact Drop.allS (((Ext.refl _).new _).sub hwt) hwt hnn ⟨⟨rfl, trivial⟩, ⟨rfl, trivial⟩, ⟨rfl, encTk_slt _ _⟩, ⟨rfl, trivial⟩, ⟨rfl, encTk_slt _ _⟩, ⟨rfl, trivial⟩, ⟨rfl, encTk_slt _ _⟩, ⟨rfl, trivial⟩, ⟨rfl, trivial⟩, trivial⟩
    · subst c
      have b1 : decide ((i : Int) < (i : Int)) = false := decide_eq_false (by omega)
      have b2 : ((i : Int) == (i : Int)) = true := by simp
      have b3 : decide ((i : Int) > (i : Int)) = false := decide_eq_false (by omega)
      rw [m2] at hgv
      rw [w1] at hgi
      have hsf : (s.extract 0 f).size = f := by rw [ByteArray.size_extract]; omega
      have htx : textT (s.extract 0 f ++ nm) ⟨4, f, f + nm.size⟩ = nm := by
        have := ren_text (s.extract 0 f) nm
        rw [hsf] at this
        exact this
      have htc := fun υ => ttext_calls (s.extract 0 f ++ nm) ⟨4, f, f + nm.size⟩ (by simp) (by simp only [ByteArray.size_append, hsf]; exact Nat.le_refl _) υ
      rw [htx] at htc
      have hne : (!decide (nm = nm)) = false := by simp
      refine hgo_sound 60 ?_
      simp -implicitDefEqProofs (maxSteps := 1000000) only [simpS, ↓condJ_true, ↓condJ_false, ↓reduceIte, Nat.reduceEqDiff, Nat.reduceLT, Nat.reduceLeDiff, reduceCtorEq, Nat.reduceAdd, Nat.reduceSub, bindG_none, addG_none, hgrpK_none, nestK_none, hgrpK_guarded, Option.map_none, beq_self_eq_true, bne_self_eq_false, Option.map_some, if_true, if_false, List.getD_cons_zero, List.getD_cons_succ, List.length_cons, List.length_nil, List.mem_cons, List.not_mem_nil, List.mem_append, List.nil_append, List.cons_append, List.append_nil, List.take_succ_cons, List.take_zero, List.drop_succ_cons, List.drop_zero, List.set_cons_zero, List.set_cons_succ, List.map_cons, List.map_nil, implies_true, forall_const, ne_eq, hd, hi', hi, hgi, encTk_length, Int.toNat_natCast, Int.natCast_nonneg]
      refine hx_drawgo 1 ?_
      simp -implicitDefEqProofs (maxSteps := 100000000) only [drawS, List.map_cons, List.map_nil, List.getElem?_cons_zero, List.getElem?_cons_succ, List.getElem?_nil, simpS, ↓condJ_true, ↓condJ_false, ↓reduceIte, Nat.reduceEqDiff, Nat.reduceLT, Nat.reduceLeDiff, reduceCtorEq, Nat.reduceAdd, Nat.reduceSub, bindG_none, addG_none, hgrpK_none, nestK_none, hgrpK_guarded, Option.map_none, beq_self_eq_true, bne_self_eq_false, Option.map_some, if_true, if_false, List.getD_cons_zero, List.getD_cons_succ, List.length_cons, List.length_nil, List.mem_cons, List.not_mem_nil, List.mem_append, List.nil_append, List.cons_append, List.append_nil, List.take_succ_cons, List.take_zero, List.drop_succ_cons, List.drop_zero, List.set_cons_zero, List.set_cons_succ, List.map_cons, List.map_nil, implies_true, forall_const, ne_eq, hnt', hne, p1.1, p1.2.1, q1.1, b1, b2, b3, hi', hi, hiv, hiv2, hgi, hgv, encTk_length, Int.toNat_natCast, Int.natCast_nonneg]
      refine hd_call (i := 29) (f := .fn 15) (by simp -implicitDefEqProofs (maxSteps := 100000000) only [drawS, List.map_cons, List.map_nil, List.getElem?_cons_zero, List.getElem?_cons_succ, List.getElem?_nil, simpS, ↓condJ_true, ↓condJ_false, ↓reduceIte, Nat.reduceEqDiff, Nat.reduceLT, Nat.reduceLeDiff, reduceCtorEq, Nat.reduceAdd, Nat.reduceSub, bindG_none, addG_none, hgrpK_none, nestK_none, hgrpK_guarded, Option.map_none, beq_self_eq_true, bne_self_eq_false, Option.map_some, if_true, if_false, List.getD_cons_zero, List.getD_cons_succ, List.length_cons, List.length_nil, List.mem_cons, List.not_mem_nil, List.mem_append, List.nil_append, List.cons_append, List.append_nil, List.take_succ_cons, List.take_zero, List.drop_succ_cons, List.drop_zero, List.set_cons_zero, List.set_cons_succ, List.map_cons, List.map_nil, implies_true, forall_const, ne_eq, hnt', hne, p1.1, p1.2.1, q1.1, b1, b2, b3, hi', hi, hiv, hiv2, hgi, hgv, encTk_length, Int.toNat_natCast, Int.natCast_nonneg]) (by rfl) (by rfl) rfl (by rfl) (by rw [hP]; exact hcallD_func (htc _)) ?_
      rintro _ σ2 ⟨rfl, h⟩
      subst σ2
      refine hdgo_sound 1 ?_
      simp -implicitDefEqProofs (maxSteps := 3000000) only [drawS, List.map_cons, List.map_nil, List.getElem?_cons_zero, List.getElem?_cons_succ, List.getElem?_nil, simpS, ↓condJ_true, ↓condJ_false, ↓reduceIte, Nat.reduceEqDiff, Nat.reduceLT, Nat.reduceLeDiff, reduceCtorEq, Nat.reduceAdd, Nat.reduceSub, bindG_none, addG_none, hgrpK_none, nestK_none, hgrpK_guarded, Option.map_none, beq_self_eq_true, bne_self_eq_false, Option.map_some, if_true, if_false, List.getD_cons_zero, List.getD_cons_succ, List.length_cons, List.length_nil, List.mem_cons, List.not_mem_nil, List.mem_append, List.nil_append, List.cons_append, List.append_nil, List.take_succ_cons, List.take_zero, List.drop_succ_cons, List.drop_zero, List.set_cons_zero, List.set_cons_succ, List.map_cons, List.map_nil, implies_true, forall_const, ne_eq, hnt', hne, p1.1, p1.2.1, q1.1, b1, b2, b3, hi', hi, hiv, hiv2, hgi, hgv, encTk_length, Int.toNat_natCast, Int.natCast_nonneg]
      refine hgo_sound 60 ?_
      simp -implicitDefEqProofs (maxSteps := 1000000) only [simpS, ↓condJ_true, ↓condJ_false, ↓reduceIte, Nat.reduceEqDiff, Nat.reduceLT, Nat.reduceLeDiff, reduceCtorEq, Nat.reduceAdd, Nat.reduceSub, bindG_none, addG_none, hgrpK_none, nestK_none, hgrpK_guarded, Option.map_none, beq_self_eq_true, bne_self_eq_false, Option.map_some, if_true, if_false, List.getD_cons_zero, List.getD_cons_succ, List.length_cons, List.length_nil, List.mem_cons, List.not_mem_nil, List.mem_append, List.nil_append, List.cons_append, List.append_nil, List.take_succ_cons, List.take_zero, List.drop_succ_cons, List.drop_zero, List.set_cons_zero, List.set_cons_succ, List.map_cons, List.map_nil, implies_true, forall_const, ne_eq, hwi]
      intro hw5 hl5 hn5
      refine ⟨⟨i + 1⟩, by simp only; omega, by simp only; omega, ?_⟩
      exact Drop.allS (((Ext.refl _).new _).sub hwt) hwt hnn ⟨⟨rfl, trivial⟩, ⟨rfl, trivial⟩, ⟨rfl, encTk_slt _ _⟩, ⟨rfl, trivial⟩, ⟨rfl, encTk_slt _ _⟩, ⟨rfl, trivial⟩, ⟨rfl, encTk_slt _ _⟩, ⟨rfl, trivial⟩, ⟨rfl, trivial⟩, trivial⟩
    · obtain ⟨x, x1, x2⟩ := m3 i c hiv2 hi
      have b1 : decide ((i : Int) < (k : Int)) = false := decide_eq_false (by omega)
      have b2 : ((i : Int) == (k : Int)) = false := by simp only [beq_eq_false_iff_ne, ne_eq]; omega
      have b3 : decide ((i : Int) > (k : Int)) = true := decide_eq_true (by omega)
      rw [x2] at hgv
      rw [x1] at hgi
      have hkk := toks_hi i hi
      rw [x1] at hkk
      simp only at hkk
      have v1 : IntKind.i64.wrap (((x.f + t : Nat) : Int) + by_) = ((x.f + (f + nm.size) : Nat) : Int) := by rw [IntWalk.i64_in _ (by omega)]; omega
      have v2 : IntKind.i64.wrap (((x.t + t : Nat) : Int) + by_) = ((x.t + (f + nm.size) : Nat) : Int) := by rw [IntWalk.i64_in _ (by omega)]; omega
      refine hgo_sound 60 ?_
      simp -implicitDefEqProofs (maxSteps := 1000000) only [simpS, ↓condJ_true, ↓condJ_false, ↓reduceIte, Nat.reduceEqDiff, Nat.reduceLT, Nat.reduceLeDiff, reduceCtorEq, Nat.reduceAdd, Nat.reduceSub, bindG_none, addG_none, hgrpK_none, nestK_none, hgrpK_guarded, Option.map_none, beq_self_eq_true, bne_self_eq_false, Option.map_some, if_true, if_false, List.getD_cons_zero, List.getD_cons_succ, List.length_cons, List.length_nil, List.mem_cons, List.not_mem_nil, List.mem_append, List.nil_append, List.cons_append, List.append_nil, List.take_succ_cons, List.take_zero, List.drop_succ_cons, List.drop_zero, List.set_cons_zero, List.set_cons_succ, List.map_cons, List.map_nil, implies_true, forall_const, ne_eq, hd, hi', hi, hgi, encTk_length, Int.toNat_natCast, Int.natCast_nonneg]
      refine hx_drawgo 2 ?_
      simp -implicitDefEqProofs (maxSteps := 100000000) only [drawS, List.map_cons, List.map_nil, List.getElem?_cons_zero, List.getElem?_cons_succ, List.getElem?_nil, simpS, ↓condJ_true, ↓condJ_false, ↓reduceIte, Nat.reduceEqDiff, Nat.reduceLT, Nat.reduceLeDiff, reduceCtorEq, Nat.reduceAdd, Nat.reduceSub, bindG_none, addG_none, hgrpK_none, nestK_none, hgrpK_guarded, Option.map_none, beq_self_eq_true, bne_self_eq_false, Option.map_some, if_true, if_false, List.getD_cons_zero, List.getD_cons_succ, List.length_cons, List.length_nil, List.mem_cons, List.not_mem_nil, List.mem_append, List.nil_append, List.cons_append, List.append_nil, List.take_succ_cons, List.take_zero, List.drop_succ_cons, List.drop_zero, List.set_cons_zero, List.set_cons_succ, List.map_cons, List.map_nil, implies_true, forall_const, ne_eq, hnt', v1, v2, b1, b2, b3, hi', hi, hiv, hiv2, hgi, hgv, encTk_length, Int.toNat_natCast, Int.natCast_nonneg]
      refine hgo_sound 60 ?_
      simp -implicitDefEqProofs (maxSteps := 1000000) only [simpS, ↓condJ_true, ↓condJ_false, ↓reduceIte, Nat.reduceEqDiff, Nat.reduceLT, Nat.reduceLeDiff, reduceCtorEq, Nat.reduceAdd, Nat.reduceSub, bindG_none, addG_none, hgrpK_none, nestK_none, hgrpK_guarded, Option.map_none, beq_self_eq_true, bne_self_eq_false, Option.map_some, if_true, if_false, List.getD_cons_zero, List.getD_cons_succ, List.length_cons, List.length_nil, List.mem_cons, List.not_mem_nil, List.mem_append, List.nil_append, List.cons_append, List.append_nil, List.take_succ_cons, List.take_zero, List.drop_succ_cons, List.drop_zero, List.set_cons_zero, List.set_cons_succ, List.map_cons, List.map_nil, implies_true, forall_const, ne_eq, hwi]
      intro hw5 hl5 hn5
      refine ⟨⟨i + 1⟩, by simp only; omega, by simp only; omega, ?_⟩
      exact Drop.allS (((Ext.refl _).new _).sub hwt) hwt hnn ⟨⟨rfl, trivial⟩, ⟨rfl, trivial⟩, ⟨rfl, encTk_slt _ _⟩, ⟨rfl, trivial⟩, ⟨rfl, encTk_slt _ _⟩, ⟨rfl, trivial⟩, ⟨rfl, encTk_slt _ _⟩, ⟨rfl, trivial⟩, ⟨rfl, trivial⟩, trivial⟩
  · have hd : decide ((i : Int) < (W.length : Int)) = false := decide_eq_false (by omega)
    refine hgo_sound 60 ?_
    simp -implicitDefEqProofs (maxSteps := 1000000) only [simpS, ↓condJ_true, ↓condJ_false, ↓reduceIte, Nat.reduceEqDiff, Nat.reduceLT, Nat.reduceLeDiff, reduceCtorEq, Nat.reduceAdd, Nat.reduceSub, bindG_none, addG_none, hgrpK_none, nestK_none, hgrpK_guarded, Option.map_none, beq_self_eq_true, bne_self_eq_false, Option.map_some, if_true, if_false, List.getD_cons_zero, List.getD_cons_succ, List.length_cons, List.length_nil, List.mem_cons, List.not_mem_nil, List.mem_append, List.nil_append, List.cons_append, List.append_nil, List.take_succ_cons, List.take_zero, List.drop_succ_cons, List.drop_zero, List.set_cons_zero, List.set_cons_succ, List.map_cons, List.map_nil, implies_true, forall_const, ne_eq, hd]
    exact fpost_pure (σ0 := σ) (.inr rfl) (by rw [hnx]; exact Nat.le_refl _) hwf (hE.sub hwf) rfl trivial trivial rfl

end Go.Hl
