/-
  Layer 8: what a cursor always holds; a new one.
-/
import Derived.Test.YtijcddlahidhhaaDoorCuC
import Derived.Test.YtijcddlahidhhaaDoorLxJ
set_option linter.unusedSectionVars false
set_option linter.unusedVariables false
set_option linter.unusedSimpArgs false
set_option maxRecDepth 100000
namespace Go.Hl
open Go Go.Proofs Go.RowKit

def sortedT (l : List Tk3) : Prop := ∀ (i j : Nat) x y, l[i]? = some x → l[j]? = some y → i < j → x.t ≤ y.f

structure Cu.good (c : Cu) : Prop where
  ok : c.ok
  srt : sortedT c.L
  deep : c.dp ≤ 200
  at_ : c.at_ ≤ c.s.size
  er : c.er ≤ 15

theorem atC_le {c : Cu} (h : c.ok) : atC c ≤ c.s.size := by
  unfold atC
  split
  · exact Nat.le_refl _
  · rename_i h0
    obtain ⟨he, hj⟩ := leftC_lt (c := c) (j := 0) (by omega)
    have hgd : c.L.getD c.n ⟨0, 0, 0⟩ = c.L[c.n] := by simp [List.getD, show c.n < c.L.length from hj]
    rw [hgd]
    have := h.in_ c.L[c.n] (List.getElem_mem _)
    omega

theorem good_fail {c : Cu} (h : c.good) (e : Int) : (failC c e).good := by
  unfold failC
  split
  · refine ⟨⟨h.ok.small, h.ok.len, h.ok.in_, h.ok.next, h.ok.last, h.ok.lastf⟩, h.srt, h.deep, atC_le h.ok, ?_⟩
    simp only
    split <;> omega
  · exact h

theorem good_take {c : Cu} (h : c.good) (w : Bool) : (takeC c w).1.good := by
  unfold takeC
  split
  · rename_i hw
    obtain ⟨he, hj⟩ := leftC_lt (c := c) (j := 0) (by omega)
    have hj' : c.n < c.L.length := hj
    have hgd : c.L.getD c.n ⟨0, 0, 0⟩ = c.L[c.n] := by simp [List.getD, hj']
    rw [hgd]
    have hx := h.ok.in_ c.L[c.n] (List.getElem_mem _)
    exact ⟨⟨h.ok.small, h.ok.len, h.ok.in_, hj', hx.2, fun y hy => h.srt c.n (c.n + 1) _ y (by simp [hj']) hy (by omega)⟩, h.srt, h.deep, h.at_, h.er⟩
  · exact good_fail h 2

theorem tiled_from : ∀ {l : List Tk3} {a b : Nat}, tiled a l b → ∀ x ∈ l, a ≤ x.f
  | [], a, b, _, x, h => by cases h
  | y :: l, a, b, h, x, hx => by
    obtain ⟨h1, h2, h2b, h3⟩ := h
    rcases List.mem_cons.1 hx with rfl | hx
    · omega
    · have := tiled_from h3 x hx
      omega

theorem sorted_filter (p : Tk3 → Bool) : ∀ {l : List Tk3} {a b : Nat}, tiled a l b → sortedT (l.filter p)
  | [], a, b, _ => fun i j x y hx => by simp at hx
  | z :: l, a, b, h => by
    obtain ⟨h1, h2, h2b, h3⟩ := h
    have ih := sorted_filter p h3
    rw [List.filter_cons]
    split
    · intro i j x y hx hy hij
      cases j with
      | zero => omega
      | succ j =>
        rw [List.getElem?_cons_succ] at hy
        cases i with
        | zero =>
          simp only [List.getElem?_cons_zero, Option.some.injEq] at hx
          subst hx
          exact tiled_from h3 y (List.mem_filter.1 (List.mem_of_getElem? hy)).1
        | succ i =>
          rw [List.getElem?_cons_succ] at hx
          exact ih i j x y hx hy (by omega)
    · exact ih

def startC (s : ByteArray) : Cu := ⟨s, realsL (toks s.data.toList 0), 0, 0, 0, 0, 0⟩

theorem start_good {s : ByteArray} (hs : s.size ≤ 4000) : (startC s).good := by
  have ht := toks_tiled s.data.toList.length s.data.toList 0 (Nat.le_refl _)
  refine ⟨⟨hs, Nat.le_trans (realsL_le _) (toks_le s), fun x hx => ?_, Nat.zero_le _, Nat.zero_le _, fun _ _ => Nat.zero_le _⟩, sorted_filter _ ht, Nat.zero_le _, Nat.zero_le _, Nat.zero_le _⟩
  have := toksS s x ((List.mem_filter.1 hx).1)
  show _ ∧ _ ≤ s.size
  omega

theorem new_good (s : ByteArray) (hs : s.size ≤ 4000) (hb : badAt (toks s.data.toList 0) = none) (σ : St) (hg : GM σ) : HCalls Tryd.prog 6 [.str s] σ (fun d σ' => d = .tuple [.ptr σ.next 0, .int .i64 0, .nili] ∧ σ' = σ.new (.box (encC (startC s)))) := by
  refine hcalls_body (fn := Tryd.f6) rfl c6 (by simp [h6]) (by simp [h6, Tryd.f6]) ?_
  intro M hP hr hnt hnx hwf hlt
  simp only [h6, argEnv]
  have hnt' : M.nt = 26 := hnt
  have d : decide ((s.size : Int) > 4000) = false := decide_eq_false (by omega)
  have hc := real_calls s (by omega) σ hg
  unfold realR realA realE at hc
  rw [hb] at hc
  refine hgo_sound 60 ?_
  simp -implicitDefEqProofs (maxSteps := 1000000) only [simpS, ↓condJ_true, ↓condJ_false, ↓reduceIte, Nat.reduceEqDiff, Nat.reduceLT, Nat.reduceLeDiff, reduceCtorEq, Nat.reduceAdd, Nat.reduceSub, bindG_none, addG_none, hgrpK_none, nestK_none, hgrpK_guarded, Option.map_none, beq_self_eq_true, bne_self_eq_false, Option.map_some, if_true, if_false, List.getD_cons_zero, List.getD_cons_succ, List.length_cons, List.length_nil, List.mem_cons, List.not_mem_nil, List.mem_append, List.nil_append, List.cons_append, List.append_nil, List.take_succ_cons, List.take_zero, List.drop_succ_cons, List.drop_zero, List.set_cons_zero, List.set_cons_succ, List.map_cons, List.map_nil, implies_true, forall_const, ne_eq, d]
  refine hx_call (f := .fn 23) rfl (by rw [hP]; exact hcallD_func (hc)) ?_
  rintro _ σ2 ⟨rfl, h⟩
  subst σ2
  have he0 : erD 0 = .nili := rfl
  simp only [he0]
  refine hgo_sound 60 ?_
  simp -implicitDefEqProofs (maxSteps := 1000000) only [simpS, ↓condJ_true, ↓condJ_false, ↓reduceIte, Nat.reduceEqDiff, Nat.reduceLT, Nat.reduceLeDiff, reduceCtorEq, Nat.reduceAdd, Nat.reduceSub, bindG_none, addG_none, hgrpK_none, nestK_none, hgrpK_guarded, Option.map_none, beq_self_eq_true, bne_self_eq_false, Option.map_some, if_true, if_false, List.getD_cons_zero, List.getD_cons_succ, List.length_cons, List.length_nil, List.mem_cons, List.not_mem_nil, List.mem_append, List.nil_append, List.cons_append, List.append_nil, List.take_succ_cons, List.take_zero, List.drop_succ_cons, List.drop_zero, List.set_cons_zero, List.set_cons_succ, List.map_cons, List.map_nil, implies_true, forall_const, ne_eq]
  exact fpost_keep (.inr rfl) rfl trivial (fun _ => ⟨Nat.lt_succ_self _, trivial, trivial, trivial⟩) fun hw => ⟨rfl, rfl⟩

theorem ex_toks8 : toks (⟨#[97, 32, 61, 32, 49]⟩ : ByteArray).data.toList 0 = [⟨4, 0, 1⟩, ⟨1, 1, 2⟩, ⟨6, 2, 3⟩, ⟨1, 3, 4⟩, ⟨5, 4, 5⟩] := by kernel_rfl

set_option maxHeartbeats 4000000 in
theorem calive_calls (σ : St) (hg : GM σ) : HCalls Tryd.prog 5 [] σ (fun d σ' => d = .bool true ∧ σ' = σ) := by
  refine hcalls_body (fn := Tryd.f5) rfl c5 (by simp [h5]) (by simp [h5, Tryd.f5]) ?_
  intro M hP hr hnt hnx hwf hlt
  simp only [h5, argEnv]
  have hnt' : M.nt = 52 := hnt
  refine hgo_sound 60 ?_
  simp -implicitDefEqProofs (maxSteps := 1000000) only [simpS, ↓condJ_true, ↓condJ_false, ↓reduceIte, Nat.reduceEqDiff, Nat.reduceLT, Nat.reduceLeDiff, reduceCtorEq, Nat.reduceAdd, Nat.reduceSub, bindG_none, addG_none, hgrpK_none, nestK_none, hgrpK_guarded, Option.map_none, beq_self_eq_true, bne_self_eq_false, Option.map_some, if_true, if_false, List.getD_cons_zero, List.getD_cons_succ, List.length_cons, List.length_nil, List.mem_cons, List.not_mem_nil, List.mem_append, List.nil_append, List.cons_append, List.append_nil, List.take_succ_cons, List.take_zero, List.drop_succ_cons, List.drop_zero, List.set_cons_zero, List.set_cons_succ, List.map_cons, List.map_nil, implies_true, forall_const, ne_eq]
  refine hx_call (f := .fn 6) rfl (by rw [hP]; exact hcallD_func (new_good ⟨#[97, 32, 61, 32, 49]⟩ (by decide) (by rw [ex_toks8]; rfl) σ hg)) ?_
  rintro _ σ2 ⟨rfl, rfl⟩
  have hst : startC ⟨#[97, 32, 61, 32, 49]⟩ = ⟨⟨#[97, 32, 61, 32, 49]⟩, [⟨4, 0, 1⟩, ⟨6, 2, 3⟩, ⟨5, 4, 5⟩], 0, 0, 0, 0, 0⟩ := by unfold startC; rw [ex_toks8]; rfl
  have hgd := start_good (s := ⟨#[97, 32, 61, 32, 49]⟩) (by decide)
  rw [hst] at hgd ⊢
  generalize hc0 : (⟨⟨#[97, 32, 61, 32, 49]⟩, [⟨4, 0, 1⟩, ⟨6, 2, 3⟩, ⟨5, 4, 5⟩], 0, 0, 0, 0, 0⟩ : Cu) = c0 at *
  have h1 : anyC c0 4 = (⟨⟨#[97, 32, 61, 32, 49]⟩, [⟨4, 0, 1⟩, ⟨6, 2, 3⟩, ⟨5, 4, 5⟩], 1, 1, 0, 0, 0⟩, .mk 1 ⟨#[]⟩ ⟨#[97]⟩ 0 []) := by subst hc0; kernel_rfl
  generalize hc1 : (⟨⟨#[97, 32, 61, 32, 49]⟩, [⟨4, 0, 1⟩, ⟨6, 2, 3⟩, ⟨5, 4, 5⟩], 1, 1, 0, 0, 0⟩ : Cu) = c1 at *
  have h2 : wantC c1 ⟨#[61]⟩ = (⟨⟨#[97, 32, 61, 32, 49]⟩, [⟨4, 0, 1⟩, ⟨6, 2, 3⟩, ⟨5, 4, 5⟩], 2, 3, 0, 0, 0⟩, .mk 1 ⟨#[32]⟩ ⟨#[61]⟩ 2 []) := by subst hc1; kernel_rfl
  generalize hc2 : (⟨⟨#[97, 32, 61, 32, 49]⟩, [⟨4, 0, 1⟩, ⟨6, 2, 3⟩, ⟨5, 4, 5⟩], 2, 3, 0, 0, 0⟩ : Cu) = c2 at *
  have h3 : anyC c2 5 = (⟨⟨#[97, 32, 61, 32, 49]⟩, [⟨4, 0, 1⟩, ⟨6, 2, 3⟩, ⟨5, 4, 5⟩], 3, 5, 0, 0, 0⟩, .mk 1 ⟨#[32]⟩ ⟨#[49]⟩ 4 []) := by subst hc2; kernel_rfl
  generalize hc3 : (⟨⟨#[97, 32, 61, 32, 49]⟩, [⟨4, 0, 1⟩, ⟨6, 2, 3⟩, ⟨5, 4, 5⟩], 3, 5, 0, 0, 0⟩ : Cu) = c3 at *
  have g1 : c1.good := by have := good_take hgd (((peekC c0 0).1 : Int) == 4); rw [show takeC c0 (((peekC c0 0).1 : Int) == 4) = anyC c0 4 from rfl, h1] at this; exact this
  have g2 : c2.good := by have := good_take g1 (isC c1 0 ⟨#[61]⟩); rw [show takeC c1 (isC c1 0 ⟨#[61]⟩) = wantC c1 ⟨#[61]⟩ from rfl, h2] at this; exact this
  have g3 : c3.good := by have := good_take g2 (((peekC c2 0).1 : Int) == 5); rw [show takeC c2 (((peekC c2 0).1 : Int) == 5) = anyC c2 5 from rfl, h3] at this; exact this
  have k3 : leftC c3 = 0 := by subst hc3; rfl
  refine hgo_sound 60 ?_
  simp -implicitDefEqProofs (maxSteps := 1000000) only [simpS, ↓condJ_true, ↓condJ_false, ↓reduceIte, Nat.reduceEqDiff, Nat.reduceLT, Nat.reduceLeDiff, reduceCtorEq, Nat.reduceAdd, Nat.reduceSub, bindG_none, addG_none, hgrpK_none, nestK_none, hgrpK_guarded, Option.map_none, beq_self_eq_true, bne_self_eq_false, Option.map_some, if_true, if_false, List.getD_cons_zero, List.getD_cons_succ, List.length_cons, List.length_nil, List.mem_cons, List.not_mem_nil, List.mem_append, List.nil_append, List.cons_append, List.append_nil, List.take_succ_cons, List.take_zero, List.drop_succ_cons, List.drop_zero, List.set_cons_zero, List.set_cons_succ, List.map_cons, List.map_nil, implies_true, forall_const, ne_eq]
  refine hx_call (f := .fn 18) rfl (by rw [hP]; exact hcallD_func (cany_calls σ.next c0 hgd.ok 4 _ (by simp -implicitDefEqProofs (maxSteps := 1000000) only [simpS, ↓condJ_true, ↓condJ_false, ↓reduceIte, Nat.reduceEqDiff, Nat.reduceLT, Nat.reduceLeDiff, reduceCtorEq, Nat.reduceAdd, Nat.reduceSub, bindG_none, addG_none, hgrpK_none, nestK_none, hgrpK_guarded, Option.map_none, beq_self_eq_true, bne_self_eq_false, Option.map_some, if_true, if_false, List.getD_cons_zero, List.getD_cons_succ, List.length_cons, List.length_nil, List.mem_cons, List.not_mem_nil, List.mem_append, List.nil_append, List.cons_append, List.append_nil, List.take_succ_cons, List.take_zero, List.drop_succ_cons, List.drop_zero, List.set_cons_zero, List.set_cons_succ, List.map_cons, List.map_nil, implies_true, forall_const, ne_eq]))) ?_
  rintro _ σ2 ⟨rfl, rfl⟩
  rw [h1]
  refine hgo_sound 60 ?_
  simp -implicitDefEqProofs (maxSteps := 1000000) only [simpS, ↓condJ_true, ↓condJ_false, ↓reduceIte, Nat.reduceEqDiff, Nat.reduceLT, Nat.reduceLeDiff, reduceCtorEq, Nat.reduceAdd, Nat.reduceSub, bindG_none, addG_none, hgrpK_none, nestK_none, hgrpK_guarded, Option.map_none, beq_self_eq_true, bne_self_eq_false, Option.map_some, if_true, if_false, List.getD_cons_zero, List.getD_cons_succ, List.length_cons, List.length_nil, List.mem_cons, List.not_mem_nil, List.mem_append, List.nil_append, List.cons_append, List.append_nil, List.take_succ_cons, List.take_zero, List.drop_succ_cons, List.drop_zero, List.set_cons_zero, List.set_cons_succ, List.map_cons, List.map_nil, implies_true, forall_const, ne_eq]
  refine hx_call (f := .fn 19) rfl (by rw [hP]; exact hcallD_func (cwant_calls σ.next c1 g1.ok ⟨#[61]⟩ _ (by simp -implicitDefEqProofs (maxSteps := 1000000) only [simpS, ↓condJ_true, ↓condJ_false, ↓reduceIte, Nat.reduceEqDiff, Nat.reduceLT, Nat.reduceLeDiff, reduceCtorEq, Nat.reduceAdd, Nat.reduceSub, bindG_none, addG_none, hgrpK_none, nestK_none, hgrpK_guarded, Option.map_none, beq_self_eq_true, bne_self_eq_false, Option.map_some, if_true, if_false, List.getD_cons_zero, List.getD_cons_succ, List.length_cons, List.length_nil, List.mem_cons, List.not_mem_nil, List.mem_append, List.nil_append, List.cons_append, List.append_nil, List.take_succ_cons, List.take_zero, List.drop_succ_cons, List.drop_zero, List.set_cons_zero, List.set_cons_succ, List.map_cons, List.map_nil, implies_true, forall_const, ne_eq]))) ?_
  rintro _ σ2 ⟨rfl, rfl⟩
  rw [h2]
  refine hgo_sound 60 ?_
  simp -implicitDefEqProofs (maxSteps := 1000000) only [simpS, ↓condJ_true, ↓condJ_false, ↓reduceIte, Nat.reduceEqDiff, Nat.reduceLT, Nat.reduceLeDiff, reduceCtorEq, Nat.reduceAdd, Nat.reduceSub, bindG_none, addG_none, hgrpK_none, nestK_none, hgrpK_guarded, Option.map_none, beq_self_eq_true, bne_self_eq_false, Option.map_some, if_true, if_false, List.getD_cons_zero, List.getD_cons_succ, List.length_cons, List.length_nil, List.mem_cons, List.not_mem_nil, List.mem_append, List.nil_append, List.cons_append, List.append_nil, List.take_succ_cons, List.take_zero, List.drop_succ_cons, List.drop_zero, List.set_cons_zero, List.set_cons_succ, List.map_cons, List.map_nil, implies_true, forall_const, ne_eq]
  refine hx_call (f := .fn 18) rfl (by rw [hP]; exact hcallD_func (cany_calls σ.next c2 g2.ok 5 _ (by simp -implicitDefEqProofs (maxSteps := 1000000) only [simpS, ↓condJ_true, ↓condJ_false, ↓reduceIte, Nat.reduceEqDiff, Nat.reduceLT, Nat.reduceLeDiff, reduceCtorEq, Nat.reduceAdd, Nat.reduceSub, bindG_none, addG_none, hgrpK_none, nestK_none, hgrpK_guarded, Option.map_none, beq_self_eq_true, bne_self_eq_false, Option.map_some, if_true, if_false, List.getD_cons_zero, List.getD_cons_succ, List.length_cons, List.length_nil, List.mem_cons, List.not_mem_nil, List.mem_append, List.nil_append, List.cons_append, List.append_nil, List.take_succ_cons, List.take_zero, List.drop_succ_cons, List.drop_zero, List.set_cons_zero, List.set_cons_succ, List.map_cons, List.map_nil, implies_true, forall_const, ne_eq]))) ?_
  rintro _ σ2 ⟨rfl, rfl⟩
  rw [h3]
  have e1 : encN (.mk 1 ⟨#[]⟩ ⟨#[97]⟩ 0 []) = [.int .i64 1, .str ⟨#[]⟩, .str ⟨#[97]⟩, .int .i64 0, .slice .no 5 []] := rfl
  have e2 : encN (.mk 1 ⟨#[32]⟩ ⟨#[61]⟩ 2 []) = [.int .i64 1, .str ⟨#[32]⟩, .str ⟨#[61]⟩, .int .i64 2, .slice .no 5 []] := rfl
  have e3 : encN (.mk 1 ⟨#[32]⟩ ⟨#[49]⟩ 4 []) = [.int .i64 1, .str ⟨#[32]⟩, .str ⟨#[49]⟩, .int .i64 4, .slice .no 5 []] := rfl
  have d1 : decide ((⟨#[97]⟩ : ByteArray) = ⟨#[97]⟩) = true := by decide
  have d2 : decide ((⟨#[]⟩ : ByteArray) = ⟨#[]⟩) = true := by decide
  have d3 : decide ((⟨#[32]⟩ : ByteArray) = ⟨#[32]⟩) = true := by decide
  have d4 : ((4 : Int) == 4) = true := rfl
  rw [e1, e2, e3]
  refine hgo_sound 60 ?_
  simp -implicitDefEqProofs (maxSteps := 1000000) only [simpS, ↓condJ_true, ↓condJ_false, ↓reduceIte, Nat.reduceEqDiff, Nat.reduceLT, Nat.reduceLeDiff, reduceCtorEq, Nat.reduceAdd, Nat.reduceSub, bindG_none, addG_none, hgrpK_none, nestK_none, hgrpK_guarded, Option.map_none, beq_self_eq_true, bne_self_eq_false, Option.map_some, if_true, if_false, List.getD_cons_zero, List.getD_cons_succ, List.length_cons, List.length_nil, List.mem_cons, List.not_mem_nil, List.mem_append, List.nil_append, List.cons_append, List.append_nil, List.take_succ_cons, List.take_zero, List.drop_succ_cons, List.drop_zero, List.set_cons_zero, List.set_cons_succ, List.map_cons, List.map_nil, implies_true, forall_const, ne_eq, d1, d2, d3, d4]
  refine hx_call (f := .fn 15) rfl (by rw [hP]; exact hcallD_func (left_calls σ.next c3 g3.ok _ (by simp -implicitDefEqProofs (maxSteps := 1000000) only [simpS, ↓condJ_true, ↓condJ_false, ↓reduceIte, Nat.reduceEqDiff, Nat.reduceLT, Nat.reduceLeDiff, reduceCtorEq, Nat.reduceAdd, Nat.reduceSub, bindG_none, addG_none, hgrpK_none, nestK_none, hgrpK_guarded, Option.map_none, beq_self_eq_true, bne_self_eq_false, Option.map_some, if_true, if_false, List.getD_cons_zero, List.getD_cons_succ, List.length_cons, List.length_nil, List.mem_cons, List.not_mem_nil, List.mem_append, List.nil_append, List.cons_append, List.append_nil, List.take_succ_cons, List.take_zero, List.drop_succ_cons, List.drop_zero, List.set_cons_zero, List.set_cons_succ, List.map_cons, List.map_nil, implies_true, forall_const, ne_eq]))) ?_
  rintro _ σ2 ⟨rfl, h⟩
  subst σ2
  have d5 : ((leftC c3 : Int) == 0) = true := by rw [k3]; rfl
  refine hgo_sound 60 ?_
  simp -implicitDefEqProofs (maxSteps := 1000000) only [simpS, ↓condJ_true, ↓condJ_false, ↓reduceIte, Nat.reduceEqDiff, Nat.reduceLT, Nat.reduceLeDiff, reduceCtorEq, Nat.reduceAdd, Nat.reduceSub, bindG_none, addG_none, hgrpK_none, nestK_none, hgrpK_guarded, Option.map_none, beq_self_eq_true, bne_self_eq_false, Option.map_some, if_true, if_false, List.getD_cons_zero, List.getD_cons_succ, List.length_cons, List.length_nil, List.mem_cons, List.not_mem_nil, List.mem_append, List.nil_append, List.cons_append, List.append_nil, List.take_succ_cons, List.take_zero, List.drop_succ_cons, List.drop_zero, List.set_cons_zero, List.set_cons_succ, List.map_cons, List.map_nil, implies_true, forall_const, ne_eq, d5]
  exact fpost_pure (σ0 := σ) (.inr rfl) (by rw [hnx]; exact Nat.le_refl _) hwf (((((Ext.refl _).new _).new _).new _).new _ |>.sub hwf) rfl trivial trivial ⟨rfl, rfl⟩

end Go.Hl
