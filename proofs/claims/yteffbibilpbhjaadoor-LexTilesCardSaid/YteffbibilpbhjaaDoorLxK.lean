/-
  Layer 6: the law LexTiles.
-/
import Derived.Test.YteffbibilpbhjaaDoorLxJ
set_option linter.unusedSectionVars false
set_option linter.unusedVariables false
set_option linter.unusedSimpArgs false
set_option maxRecDepth 100000
namespace Go.Hl
open Go Go.Proofs Go.RowKit

theorem badAt_none : ∀ {l : List Tk3}, badAt l = none → ∀ x ∈ l, x.k ≠ 7
  | [], _, x, h => by cases h
  | y :: l, hb, x, h => by
    simp only [badAt] at hb
    split at hb
    · cases hb
    · rename_i h7
      rcases List.mem_cons.1 h with rfl | h
      · exact h7
      · exact badAt_none hb x h

structure TlS where
  i : Nat
  a : Nat

def ltlR : HC := tlC (tlC (tlC (tlC h7.body)))
def ltlB : HC := tlC (tlC (tlC ltlR))

structure TlH (M : Md) (σ : St) (s : ByteArray) : Prop where
  hP : M.P = Tryd.prog
  hr : M.r = none
  hnt : M.nt = h7.nt
  hnx : M.gS.next = σ.next
  hwf : σ.wf
  hs : s.size ≤ 2000
  hg : GM σ
abbrev tlPost (M : Md) : HPost := FPost M.gS.next [HR.tmp 2] (fun d x => d = D.bool true)

set_option maxHeartbeats 4000000 in
theorem tilesB_ok (s : ByteArray) (σ : St) (M : Md) (H : TlH M σ s) : HX M (tlPost M) [.code ltlB] [(0, .str s)] σ := by
  obtain ⟨hP, hr, hnt, hnx, hwf, hs, hg⟩ := H
  have hnt' : M.nt = 91 := hnt
  have hrc := real_calls s (by omega) σ hg
  have hal := alone_S s
  have hkd := toksS s
  have hle := toks_le s
  simp only [ltlB, ltlR, h7, tlC]
  unfold realR realA realE at hrc
  generalize toks s.data.toList 0 = W at *
  refine hgo_sound 60 ?_
  simp -implicitDefEqProofs (maxSteps := 1000000) only [simpS, ↓condJ_true, ↓condJ_false, ↓reduceIte, Nat.reduceEqDiff, Nat.reduceLT, Nat.reduceLeDiff, reduceCtorEq, Nat.reduceAdd, Nat.reduceSub, bindG_none, addG_none, hgrpK_none, nestK_none, hgrpK_guarded, Option.map_none, beq_self_eq_true, bne_self_eq_false, Option.map_some, if_true, if_false, List.getD_cons_zero, List.getD_cons_succ, List.length_cons, List.length_nil, List.mem_cons, List.not_mem_nil, List.mem_append, List.nil_append, List.cons_append, List.append_nil, List.take_succ_cons, List.take_zero, List.drop_succ_cons, List.drop_zero, List.set_cons_zero, List.set_cons_succ, List.map_cons, List.map_nil, implies_true, forall_const, ne_eq]
  cases hb : badAt W with
  | some f =>
    rw [hb] at hrc
    refine hx_call (f := .fn 16) rfl (by rw [hP]; exact hcallD_func (hrc)) ?_
    rintro _ σ2 ⟨rfl, h⟩
    subst σ2
    have he2 : erD 2 = .iface 50 (.int .i64 2) := rfl
    have hz : ((encTk []).length : Int) = 0 := rfl
    simp only [he2]
    refine hgo_sound 60 ?_
    simp -implicitDefEqProofs (maxSteps := 1000000) only [simpS, ↓condJ_true, ↓condJ_false, ↓reduceIte, Nat.reduceEqDiff, Nat.reduceLT, Nat.reduceLeDiff, reduceCtorEq, Nat.reduceAdd, Nat.reduceSub, bindG_none, addG_none, hgrpK_none, nestK_none, hgrpK_guarded, Option.map_none, beq_self_eq_true, bne_self_eq_false, Option.map_some, if_true, if_false, List.getD_cons_zero, List.getD_cons_succ, List.length_cons, List.length_nil, List.mem_cons, List.not_mem_nil, List.mem_append, List.nil_append, List.cons_append, List.append_nil, List.take_succ_cons, List.take_zero, List.drop_succ_cons, List.drop_zero, List.set_cons_zero, List.set_cons_succ, List.map_cons, List.map_nil, implies_true, forall_const, ne_eq, hz, show ((0 : Int) == 0) = true by rfl]
    exact fpost_pure (σ0 := σ) (.inr rfl) (by rw [hnx]; exact Nat.le_refl _) hwf (Sub.refl σ) rfl trivial trivial rfl
  | none =>
    rw [hb] at hrc
    have hnb := badAt_none hb
    refine hx_call (f := .fn 16) rfl (by rw [hP]; exact hcallD_func (hrc)) ?_
    rintro _ σ2 ⟨rfl, h⟩
    subst σ2
    simp only [erD_zero]
    have hmem : ∀ x ∈ realsL W, x ∈ W ∧ 2 < x.k := fun x hx => by
      have := List.mem_filter.1 hx
      exact ⟨this.1, of_decide_eq_true this.2⟩
    have hrl := realsL_le W
    generalize realsL W = L at *
    refine hgo_sound 60 ?_
    simp -implicitDefEqProofs (maxSteps := 1000000) only [simpS, ↓condJ_true, ↓condJ_false, ↓reduceIte, Nat.reduceEqDiff, Nat.reduceLT, Nat.reduceLeDiff, reduceCtorEq, Nat.reduceAdd, Nat.reduceSub, bindG_none, addG_none, hgrpK_none, nestK_none, hgrpK_guarded, Option.map_none, beq_self_eq_true, bne_self_eq_false, Option.map_some, if_true, if_false, List.getD_cons_zero, List.getD_cons_succ, List.length_cons, List.length_nil, List.mem_cons, List.not_mem_nil, List.mem_append, List.nil_append, List.cons_append, List.append_nil, List.take_succ_cons, List.take_zero, List.drop_succ_cons, List.drop_zero, List.set_cons_zero, List.set_cons_succ, List.map_cons, List.map_nil, implies_true, forall_const, ne_eq, encTk_length]
    refine hx_know_code fun hw hl hn => ?_
    refine hx_loop (S := RnI) (fun t => [(0, .str s), (68, .slice .no 3 (encTk L)), (69, .int .i64 (L.length : Int)), (70, .int .i64 (t.i : Int))]) (fun t => σ)
      (fun t => t.i ≤ L.length) (fun t => L.length - t.i) ⟨0⟩ (Nat.zero_le _) (fun _ _ h => by rw [hr] at h; cases h) ?_ ?_
    · exact Drop.all hw hn ⟨⟨rfl, trivial⟩, ⟨rfl, encTk_slt _ _⟩, ⟨rfl, trivial⟩, ⟨rfl, trivial⟩, trivial⟩
    rintro ⟨i⟩ i1
    simp only at i1 ⊢
    by_cases hi : i < L.length
    · have hd : decide ((i : Int) < (L.length : Int)) = true := decide_eq_true (by omega)
      have hi' : (i : Int) < (L.length : Int) := by omega
      have hgt := encTk_get L i hi
      have hwi : IntKind.i64.wrap ((i : Int) + 1) = ((i + 1 : Nat) : Int) := by rw [IntWalk.i64_in _ (by omega)]; rfl
      obtain ⟨hx1, hx2⟩ := hmem _ (List.getElem_mem hi)
      have hx7 := hnb _ hx1
      have hk := hkd _ hx1
      have ha := hal _ hx1 hx2 hx7
      have hts : (textT s L[i]).size ≤ s.size := by unfold textT; rw [ByteArray.size_extract]; omega
      have hlc := fun τ (h : GM τ) => list_calls (textT s L[i]) (by omega) τ h
      rw [ha] at hlc
      have hl1 : (encTk [⟨L[i].k, 0, L[i].t - L[i].f⟩]).length = 1 := rfl
      have hg1 : (encTk [⟨L[i].k, 0, L[i].t - L[i].f⟩]).getD (Int.toNat 0) [] = [.int .i64 (L[i].k : Int), .int .i64 (0 : Nat), .int .i64 ((L[i].t - L[i].f : Nat) : Int)] := rfl
      have hn1 : (((1 : Nat) : Int) != 1) = false := rfl
      have hp1 : (0 : Int) ≤ 0 ∧ (0 : Int) < ((1 : Nat) : Int) := by decide
      generalize encTk [⟨L[i].k, 0, L[i].t - L[i].f⟩] = U at *
      have hp2 : Int.toNat 0 < 1 := by decide
      refine hgo_sound 60 ?_
      simp -implicitDefEqProofs (maxSteps := 1000000) only [simpS, ↓condJ_true, ↓condJ_false, ↓reduceIte, Nat.reduceEqDiff, Nat.reduceLT, Nat.reduceLeDiff, reduceCtorEq, Nat.reduceAdd, Nat.reduceSub, bindG_none, addG_none, hgrpK_none, nestK_none, hgrpK_guarded, Option.map_none, beq_self_eq_true, bne_self_eq_false, Option.map_some, if_true, if_false, List.getD_cons_zero, List.getD_cons_succ, List.length_cons, List.length_nil, List.mem_cons, List.not_mem_nil, List.mem_append, List.nil_append, List.cons_append, List.append_nil, List.take_succ_cons, List.take_zero, List.drop_succ_cons, List.drop_zero, List.set_cons_zero, List.set_cons_succ, List.map_cons, List.map_nil, implies_true, forall_const, ne_eq, hd, hi', hi, hgt, encTk_length, Int.toNat_natCast, Int.natCast_nonneg]
      refine hx_call (f := .fn 15) rfl (by rw [hP]; exact hcallD_func (ttext_calls s L[i] (by omega) (by omega) _)) ?_
      rintro _ σ2 ⟨rfl, h⟩
      subst σ2
      refine hgo_sound 60 ?_
      simp -implicitDefEqProofs (maxSteps := 1000000) only [simpS, ↓condJ_true, ↓condJ_false, ↓reduceIte, Nat.reduceEqDiff, Nat.reduceLT, Nat.reduceLeDiff, reduceCtorEq, Nat.reduceAdd, Nat.reduceSub, bindG_none, addG_none, hgrpK_none, nestK_none, hgrpK_guarded, Option.map_none, beq_self_eq_true, bne_self_eq_false, Option.map_some, if_true, if_false, List.getD_cons_zero, List.getD_cons_succ, List.length_cons, List.length_nil, List.mem_cons, List.not_mem_nil, List.mem_append, List.nil_append, List.cons_append, List.append_nil, List.take_succ_cons, List.take_zero, List.drop_succ_cons, List.drop_zero, List.set_cons_zero, List.set_cons_succ, List.map_cons, List.map_nil, implies_true, forall_const, ne_eq]
      refine hx_call (f := .fn 12) rfl (by rw [hP]; exact hcallD_func (hlc _ (hg.to rfl))) ?_
      rintro _ σ2 ⟨rfl, h⟩
      subst σ2
      refine hgo_sound 60 ?_
      simp -implicitDefEqProofs (maxSteps := 1000000) only [simpS, ↓condJ_true, ↓condJ_false, ↓reduceIte, Nat.reduceEqDiff, Nat.reduceLT, Nat.reduceLeDiff, reduceCtorEq, Nat.reduceAdd, Nat.reduceSub, bindG_none, addG_none, hgrpK_none, nestK_none, hgrpK_guarded, Option.map_none, beq_self_eq_true, bne_self_eq_false, Option.map_some, if_true, if_false, List.getD_cons_zero, List.getD_cons_succ, List.length_cons, List.length_nil, List.mem_cons, List.not_mem_nil, List.mem_append, List.nil_append, List.cons_append, List.append_nil, List.take_succ_cons, List.take_zero, List.drop_succ_cons, List.drop_zero, List.set_cons_zero, List.set_cons_succ, List.map_cons, List.map_nil, implies_true, forall_const, ne_eq]
      refine hx_drawgo 1 ?_
      simp -implicitDefEqProofs (maxSteps := 100000000) only [drawS, List.map_cons, List.map_nil, List.getElem?_cons_zero, List.getElem?_cons_succ, List.getElem?_nil, simpS, ↓condJ_true, ↓condJ_false, ↓reduceIte, Nat.reduceEqDiff, Nat.reduceLT, Nat.reduceLeDiff, reduceCtorEq, Nat.reduceAdd, Nat.reduceSub, bindG_none, addG_none, hgrpK_none, nestK_none, hgrpK_guarded, Option.map_none, beq_self_eq_true, bne_self_eq_false, Option.map_some, if_true, if_false, List.getD_cons_zero, List.getD_cons_succ, List.length_cons, List.length_nil, List.mem_cons, List.not_mem_nil, List.mem_append, List.nil_append, List.cons_append, List.append_nil, List.take_succ_cons, List.take_zero, List.drop_succ_cons, List.drop_zero, List.set_cons_zero, List.set_cons_succ, List.map_cons, List.map_nil, implies_true, forall_const, ne_eq, hnt', hl1, hg1, hn1, hp1.1, hp1.2, hp2]
      refine hgo_sound 60 ?_
      simp -implicitDefEqProofs (maxSteps := 1000000) only [simpS, ↓condJ_true, ↓condJ_false, ↓reduceIte, Nat.reduceEqDiff, Nat.reduceLT, Nat.reduceLeDiff, reduceCtorEq, Nat.reduceAdd, Nat.reduceSub, bindG_none, addG_none, hgrpK_none, nestK_none, hgrpK_guarded, Option.map_none, beq_self_eq_true, bne_self_eq_false, Option.map_some, if_true, if_false, List.getD_cons_zero, List.getD_cons_succ, List.length_cons, List.length_nil, List.mem_cons, List.not_mem_nil, List.mem_append, List.nil_append, List.cons_append, List.append_nil, List.take_succ_cons, List.take_zero, List.drop_succ_cons, List.drop_zero, List.set_cons_zero, List.set_cons_succ, List.map_cons, List.map_nil, implies_true, forall_const, ne_eq, hwi]
      intro hw5 hl5 hn5
      refine ⟨⟨i + 1⟩, by simp only; omega, by simp only; omega, ?_⟩
      exact Drop.allS (((Ext.refl _).new _).sub hwf) hwf hn ⟨⟨rfl, trivial⟩, ⟨rfl, encTk_slt _ _⟩, ⟨rfl, trivial⟩, ⟨rfl, trivial⟩, trivial⟩
    · have hd : decide ((i : Int) < (L.length : Int)) = false := decide_eq_false (by omega)
      refine hgo_sound 60 ?_
      simp -implicitDefEqProofs (maxSteps := 1000000) only [simpS, ↓condJ_true, ↓condJ_false, ↓reduceIte, Nat.reduceEqDiff, Nat.reduceLT, Nat.reduceLeDiff, reduceCtorEq, Nat.reduceAdd, Nat.reduceSub, bindG_none, addG_none, hgrpK_none, nestK_none, hgrpK_guarded, Option.map_none, beq_self_eq_true, bne_self_eq_false, Option.map_some, if_true, if_false, List.getD_cons_zero, List.getD_cons_succ, List.length_cons, List.length_nil, List.mem_cons, List.not_mem_nil, List.mem_append, List.nil_append, List.cons_append, List.append_nil, List.take_succ_cons, List.take_zero, List.drop_succ_cons, List.drop_zero, List.set_cons_zero, List.set_cons_succ, List.map_cons, List.map_nil, implies_true, forall_const, ne_eq, hd]
      exact fpost_pure (σ0 := σ) (.inr rfl) (by rw [hnx]; exact Nat.le_refl _) hwf (Sub.refl σ) rfl trivial trivial rfl

set_option maxHeartbeats 4000000 in
theorem tilesR_ok (s : ByteArray) (σ : St) (M : Md) (H : TlH M σ s) : HX M (tlPost M) [.code ltlR] [(0, .str s), (3, .slice .no 3 (encTk (toks s.data.toList 0)))] σ := by
  have rest := tilesB_ok s σ M H
  obtain ⟨hP, hr, hnt, hnx, hwf, hs, hg⟩ := H
  have hnt' : M.nt = 91 := hnt
  have hti := tiledS s
  have hja := join_all s
  have hkd := toksS s
  have hle := toks_le s
  simp only [ltlB, ltlR, h7, tlC] at rest ⊢
  generalize toks s.data.toList 0 = W at *
  refine hgo_sound 60 ?_
  simp -implicitDefEqProofs (maxSteps := 1000000) only [simpS, ↓condJ_true, ↓condJ_false, ↓reduceIte, Nat.reduceEqDiff, Nat.reduceLT, Nat.reduceLeDiff, reduceCtorEq, Nat.reduceAdd, Nat.reduceSub, bindG_none, addG_none, hgrpK_none, nestK_none, hgrpK_guarded, Option.map_none, beq_self_eq_true, bne_self_eq_false, Option.map_some, if_true, if_false, List.getD_cons_zero, List.getD_cons_succ, List.length_cons, List.length_nil, List.mem_cons, List.not_mem_nil, List.mem_append, List.nil_append, List.cons_append, List.append_nil, List.take_succ_cons, List.take_zero, List.drop_succ_cons, List.drop_zero, List.set_cons_zero, List.set_cons_succ, List.map_cons, List.map_nil, implies_true, forall_const, ne_eq, encTk_length]
  refine hx_know_code fun hw hl hn => ?_
  refine hx_loop (S := TlS) (fun t => [(0, .str s), (3, .slice .no 3 (encTk W)), (4, .int .i64 (t.a : Int)), (20, .slice .no 3 (encTk W)), (21, .int .i64 (W.length : Int)), (22, .int .i64 (t.i : Int))]) (fun t => σ)
    (fun t => t.i ≤ W.length ∧ tiled t.a (W.drop t.i) s.size) (fun t => W.length - t.i) ⟨0, 0⟩ ⟨Nat.zero_le _, hti⟩ (fun _ _ h => by rw [hr] at h; cases h) ?_ ?_
  · exact Drop.all hw hn ⟨⟨rfl, trivial⟩, ⟨rfl, encTk_slt _ _⟩, ⟨rfl, trivial⟩, ⟨rfl, encTk_slt _ _⟩, ⟨rfl, trivial⟩, ⟨rfl, trivial⟩, trivial⟩
  rintro ⟨i, a⟩ ⟨i1, i2⟩
  simp only at i1 i2 ⊢
  by_cases hi : i < W.length
  · have hd : decide ((i : Int) < (W.length : Int)) = true := decide_eq_true (by omega)
    have hi' : (i : Int) < (W.length : Int) := by omega
    have hgt := encTk_get W i hi
    have hwi : IntKind.i64.wrap ((i : Int) + 1) = ((i + 1 : Nat) : Int) := by rw [IntWalk.i64_in _ (by omega)]; rfl
    rw [List.drop_eq_getElem_cons hi] at i2
    obtain ⟨t1, t2, t3, t4⟩ := i2
    have b1 : ((W[i].f : Int) != (a : Int)) = false := by rw [t1]; simp
    have b2 : decide ((W[i].t : Int) ≤ (a : Int)) = false := decide_eq_false (by omega)
    have b3 : decide ((W[i].t : Int) > (s.size : Int)) = false := decide_eq_false (by omega)
    refine hgo_sound 90 ?_
    simp -implicitDefEqProofs (maxSteps := 1000000) only [simpS, ↓condJ_true, ↓condJ_false, ↓reduceIte, Nat.reduceEqDiff, Nat.reduceLT, Nat.reduceLeDiff, reduceCtorEq, Nat.reduceAdd, Nat.reduceSub, bindG_none, addG_none, hgrpK_none, nestK_none, hgrpK_guarded, Option.map_none, beq_self_eq_true, bne_self_eq_false, Option.map_some, if_true, if_false, List.getD_cons_zero, List.getD_cons_succ, List.length_cons, List.length_nil, List.mem_cons, List.not_mem_nil, List.mem_append, List.nil_append, List.cons_append, List.append_nil, List.take_succ_cons, List.take_zero, List.drop_succ_cons, List.drop_zero, List.set_cons_zero, List.set_cons_succ, List.map_cons, List.map_nil, implies_true, forall_const, ne_eq, hd, hi', hi, hgt, hwi, b1, b2, b3, encTk_length, Int.toNat_natCast, Int.natCast_nonneg]
    intro hw5 hl5 hn5
    refine ⟨⟨i + 1, W[i].t⟩, ⟨by simp only; omega, t4⟩, by simp only; omega, ?_⟩
    exact Drop.allS (((Ext.refl _).new _).sub hwf) hwf hn ⟨⟨rfl, trivial⟩, ⟨rfl, encTk_slt _ _⟩, ⟨rfl, trivial⟩, ⟨rfl, encTk_slt _ _⟩, ⟨rfl, trivial⟩, ⟨rfl, trivial⟩, trivial⟩
  · have hd : decide ((i : Int) < (W.length : Int)) = false := decide_eq_false (by omega)
    have hdr : W.drop i = [] := List.drop_eq_nil_of_le (by omega)
    rw [hdr] at i2
    have ha : a = s.size := i2
    subst ha
    have hbn : ((s.size : Int) != (s.size : Int)) = false := by simp
    have hjc := join_calls s W (fun x hx => by have := hkd x hx; omega) (by omega) (by omega) σ
    rw [hja] at hjc
    have hdt : (!decide (s = s)) = false := by simp
    refine hgo_sound 60 ?_
    simp -implicitDefEqProofs (maxSteps := 1000000) only [simpS, ↓condJ_true, ↓condJ_false, ↓reduceIte, Nat.reduceEqDiff, Nat.reduceLT, Nat.reduceLeDiff, reduceCtorEq, Nat.reduceAdd, Nat.reduceSub, bindG_none, addG_none, hgrpK_none, nestK_none, hgrpK_guarded, Option.map_none, beq_self_eq_true, bne_self_eq_false, Option.map_some, if_true, if_false, List.getD_cons_zero, List.getD_cons_succ, List.length_cons, List.length_nil, List.mem_cons, List.not_mem_nil, List.mem_append, List.nil_append, List.cons_append, List.append_nil, List.take_succ_cons, List.take_zero, List.drop_succ_cons, List.drop_zero, List.set_cons_zero, List.set_cons_succ, List.map_cons, List.map_nil, implies_true, forall_const, ne_eq, hd]
    refine hgo_sound 60 ?_
    simp -implicitDefEqProofs (maxSteps := 1000000) only [simpS, ↓condJ_true, ↓condJ_false, ↓reduceIte, Nat.reduceEqDiff, Nat.reduceLT, Nat.reduceLeDiff, reduceCtorEq, Nat.reduceAdd, Nat.reduceSub, bindG_none, addG_none, hgrpK_none, nestK_none, hgrpK_guarded, Option.map_none, beq_self_eq_true, bne_self_eq_false, Option.map_some, if_true, if_false, List.getD_cons_zero, List.getD_cons_succ, List.length_cons, List.length_nil, List.mem_cons, List.not_mem_nil, List.mem_append, List.nil_append, List.cons_append, List.append_nil, List.take_succ_cons, List.take_zero, List.drop_succ_cons, List.drop_zero, List.set_cons_zero, List.set_cons_succ, List.map_cons, List.map_nil, implies_true, forall_const, ne_eq, hbn]
    refine hx_call (f := .fn 20) rfl (by rw [hP]; exact hcallD_func (hjc)) ?_
    rintro _ σ2 ⟨rfl, h⟩
    subst σ2
    refine hgo_sound 6 ?_
    simp -implicitDefEqProofs (maxSteps := 1000000) only [simpS, ↓condJ_true, ↓condJ_false, ↓reduceIte, Nat.reduceEqDiff, Nat.reduceLT, Nat.reduceLeDiff, reduceCtorEq, Nat.reduceAdd, Nat.reduceSub, bindG_none, addG_none, hgrpK_none, nestK_none, hgrpK_guarded, Option.map_none, beq_self_eq_true, bne_self_eq_false, Option.map_some, if_true, if_false, List.getD_cons_zero, List.getD_cons_succ, List.length_cons, List.length_nil, List.mem_cons, List.not_mem_nil, List.mem_append, List.nil_append, List.cons_append, List.append_nil, List.take_succ_cons, List.take_zero, List.drop_succ_cons, List.drop_zero, List.set_cons_zero, List.set_cons_succ, List.map_cons, List.map_nil, implies_true, forall_const, ne_eq, hdt]
    exact hx_env [(0, .str s)] ⟨fun _ _ _ h => h, trivial⟩ rest (fun _ e => by cases e) (fun _ e => by cases e)

set_option maxHeartbeats 4000000 in
theorem lexTiles_calls (s : ByteArray) (σ : St) (hg : GM σ) : HCalls Tryd.prog 7 [.str s] σ (fun d _ => d = .bool true) := by
  refine hcalls_body (fn := Tryd.f7) rfl c7 (by simp [h7]) (by simp [h7, Tryd.f7]) ?_
  intro M hP hr hnt hnx hwf hlt
  have rest := fun hs => tilesR_ok s σ M ⟨hP, hr, hnt, hnx, hwf, hs, hg⟩
  simp only [ltlR, h7, tlC, argEnv] at rest ⊢
  refine hgo_sound 60 ?_
  simp -implicitDefEqProofs (maxSteps := 1000000) only [simpS, ↓condJ_true, ↓condJ_false, ↓reduceIte, Nat.reduceEqDiff, Nat.reduceLT, Nat.reduceLeDiff, reduceCtorEq, Nat.reduceAdd, Nat.reduceSub, bindG_none, addG_none, hgrpK_none, nestK_none, hgrpK_guarded, Option.map_none, beq_self_eq_true, bne_self_eq_false, Option.map_some, if_true, if_false, List.getD_cons_zero, List.getD_cons_succ, List.length_cons, List.length_nil, List.mem_cons, List.not_mem_nil, List.mem_append, List.nil_append, List.cons_append, List.append_nil, List.take_succ_cons, List.take_zero, List.drop_succ_cons, List.drop_zero, List.set_cons_zero, List.set_cons_succ, List.map_cons, List.map_nil, implies_true, forall_const, ne_eq]
  refine hx_call (f := .fn 8) rfl (by rw [hP]; exact hcallD_func (alive_calls _ hg)) ?_
  rintro _ σ2 ⟨rfl, h⟩
  subst σ2
  by_cases hs : 2000 < s.size
  · have hd : decide ((s.size : Int) > 2000) = true := decide_eq_true (by omega)
    refine hgo_sound 60 ?_
    simp -implicitDefEqProofs (maxSteps := 1000000) only [simpS, ↓condJ_true, ↓condJ_false, ↓reduceIte, Nat.reduceEqDiff, Nat.reduceLT, Nat.reduceLeDiff, reduceCtorEq, Nat.reduceAdd, Nat.reduceSub, bindG_none, addG_none, hgrpK_none, nestK_none, hgrpK_guarded, Option.map_none, beq_self_eq_true, bne_self_eq_false, Option.map_some, if_true, if_false, List.getD_cons_zero, List.getD_cons_succ, List.length_cons, List.length_nil, List.mem_cons, List.not_mem_nil, List.mem_append, List.nil_append, List.cons_append, List.append_nil, List.take_succ_cons, List.take_zero, List.drop_succ_cons, List.drop_zero, List.set_cons_zero, List.set_cons_succ, List.map_cons, List.map_nil, implies_true, forall_const, ne_eq, hd]
    exact fpost_pure (σ0 := σ) (.inr rfl) (by rw [hnx]; exact Nat.le_refl _) hwf (Sub.refl σ) rfl trivial trivial rfl
  have hd : decide ((s.size : Int) > 2000) = false := decide_eq_false (by omega)
  refine hgo_sound 60 ?_
  simp -implicitDefEqProofs (maxSteps := 1000000) only [simpS, ↓condJ_true, ↓condJ_false, ↓reduceIte, Nat.reduceEqDiff, Nat.reduceLT, Nat.reduceLeDiff, reduceCtorEq, Nat.reduceAdd, Nat.reduceSub, bindG_none, addG_none, hgrpK_none, nestK_none, hgrpK_guarded, Option.map_none, beq_self_eq_true, bne_self_eq_false, Option.map_some, if_true, if_false, List.getD_cons_zero, List.getD_cons_succ, List.length_cons, List.length_nil, List.mem_cons, List.not_mem_nil, List.mem_append, List.nil_append, List.cons_append, List.append_nil, List.take_succ_cons, List.take_zero, List.drop_succ_cons, List.drop_zero, List.set_cons_zero, List.set_cons_succ, List.map_cons, List.map_nil, implies_true, forall_const, ne_eq, hd]
  refine hx_call (f := .fn 12) rfl (by rw [hP]; exact hcallD_func (list_calls s (by omega) _ hg)) ?_
  rintro _ σ2 ⟨rfl, h⟩
  subst σ2
  refine hgo_sound 4 ?_
  simp -implicitDefEqProofs (maxSteps := 1000000) only [simpS, ↓condJ_true, ↓condJ_false, ↓reduceIte, Nat.reduceEqDiff, Nat.reduceLT, Nat.reduceLeDiff, reduceCtorEq, Nat.reduceAdd, Nat.reduceSub, bindG_none, addG_none, hgrpK_none, nestK_none, hgrpK_guarded, Option.map_none, beq_self_eq_true, bne_self_eq_false, Option.map_some, if_true, if_false, List.getD_cons_zero, List.getD_cons_succ, List.length_cons, List.length_nil, List.mem_cons, List.not_mem_nil, List.mem_append, List.nil_append, List.cons_append, List.append_nil, List.take_succ_cons, List.take_zero, List.drop_succ_cons, List.drop_zero, List.set_cons_zero, List.set_cons_succ, List.map_cons, List.map_nil, implies_true, forall_const, ne_eq]
  exact hx_env [(0, .str s), (3, .slice .no 3 (encTk (toks s.data.toList 0)))] ⟨fun _ _ _ h => h, fun _ _ _ h => h, trivial⟩ (rest (by omega)) (fun _ e => by cases e) (fun _ e => by cases e)

end Go.Hl
