/-
  The law's Document.
-/
import Derived.Test.YtlaljehmcacmjaaTrF
set_option linter.unusedSectionVars false
set_option linter.unusedVariables false
set_option linter.unusedSimpArgs false
set_option maxRecDepth 100000
namespace Go.Hl
open Go Go.Proofs

theorem encNs_get {l : List Nd} {j : Nat} (hj : j < l.length) : (encNs l).getD j [] = encN l[j] := by rw [encNs_eq]; simp [List.getD, hj]

theorem textL_size : ∀ l, (textL l).size = textLen l
  | [] => rfl
  | x :: xs => by simp only [textL, textLen, ByteArray.size_append, textL_size xs]

/-- What a node costs. -/
def costN (n : Nd) : Int := 1 + (n.gap.size + n.text.size : Nat) / 50

mutual
/-- How many nodes more there may be. -/
def docN : Nd → Int → Int
  | .mk k g t a ks, many => docNs ks (many - costN (.mk k g t a ks))
def docNs : List Nd → Int → Int
  | [], many => many
  | n :: ns, many => if many < 0 then -1 else docNs ns (docN n many)
end

structure DcS where
  j : Nat
  many : Int
  ys : List Nd

theorem costN_pos (n : Nd) : 1 ≤ costN n := by unfold costN; omega

mutual
/-- Strings and lists as long as they come. -/
def fitN : Nd → Prop
  | .mk k g t a ks => g.size ≤ 140737488355328 ∧ t.size ≤ 140737488355328 ∧ ks.length ≤ 140737488355328 ∧ fitNs ks
def fitNs : List Nd → Prop
  | [] => True
  | n :: ns => fitN n ∧ fitNs ns
end

theorem fitNs_mem : ∀ {ks : List Nd}, fitNs ks → ∀ {x}, x ∈ ks → fitN x
  | k :: ks, h, x, hx => by
    rcases List.mem_cons.1 hx with rfl | hx
    · exact h.1
    · exact fitNs_mem h.2 hx

mutual
theorem docN_lt : ∀ (n : Nd) (many : Int), 0 ≤ many → docN n many < many
  | .mk k g t a ks, many, h => by
    have hc := costN_pos (.mk k g t a ks)
    simp only [docN]
    by_cases hm : 0 ≤ many - costN (.mk k g t a ks)
    · have := docNs_le ks (many - costN (.mk k g t a ks)) hm; omega
    · have := docNs_neg ks (many - costN (.mk k g t a ks)) (by omega); omega
theorem docNs_le : ∀ (ns : List Nd) (many : Int), 0 ≤ many → docNs ns many ≤ many
  | [], many, h => by simp only [docNs]; omega
  | n :: ns, many, h => by
    simp only [docNs]
    rw [if_neg (by omega)]
    have h1 := docN_lt n many h
    by_cases hm : 0 ≤ docN n many
    · have := docNs_le ns (docN n many) hm; omega
    · have := docNs_neg ns (docN n many) (by omega); omega
theorem docNs_neg : ∀ (ns : List Nd) (many : Int), many < 0 → docNs ns many < 0
  | [], many, h => by simp only [docNs]; exact h
  | n :: ns, many, h => by
    simp only [docNs]
    rw [if_pos h]
    decide
end

theorem doc_calls : ∀ (sz : Nat) (n : Nd), cntN n ≤ sz → fitN n → ∀ (many : Int), 0 ≤ many → many ≤ 1099511627776 → ∀ (σ : St),
    HCalls Try.prog 8 [.agg (encN n), .int .i64 many] σ (fun d σ' => (∃ m, d = .tuple [.agg (encN m), .int .i64 (docN n many)] ∧ (0 ≤ docN n many → m = n)) ∧ σ' = σ) := by
  intro sz
  induction sz with
  | zero => intro n hn; have := cntN_pos n; omega
  | succ sz ih =>
  intro n hn hfit many hm0 hm1 σ
  refine hcalls_body (fn := Try.f8) rfl c8 (by simp [h8]) (by simp [h8, Try.f8]) ?_
  intro M hP hr hnt hnx hwf hlt
  have hks := cntN_kids n
  have hcost := costN_pos n
  have hco : costN n = 1 + (n.gap.size + n.text.size : Nat) / 50 := rfl
  obtain ⟨fg, ft, fl, fk⟩ : n.gap.size ≤ 140737488355328 ∧ n.text.size ≤ 140737488355328 ∧ n.kids.length ≤ 140737488355328 ∧ fitNs n.kids := by cases n; exact hfit
  have hdoc : docN n many = docNs n.kids (many - costN n) := by cases n; rfl
  have hw1 : IntKind.i64.wrap ((n.gap.size : Int) + n.text.size) = ((n.gap.size + n.text.size : Nat) : Int) := by rw [IntWalk.i64_in _ (by omega)]; rfl
  have hw2 : IntKind.i64.wrap (Int.tdiv ((n.gap.size + n.text.size : Nat) : Int) 50) = (((n.gap.size + n.text.size) / 50 : Nat) : Int) := by
    have : Int.tdiv ((n.gap.size + n.text.size : Nat) : Int) 50 = (((n.gap.size + n.text.size) / 50 : Nat) : Int) := rfl
    rw [this, IntWalk.i64_in _ (by omega)]
  have hw3 : IntKind.i64.wrap (1 + (((n.gap.size + n.text.size) / 50 : Nat) : Int)) = costN n := by rw [IntWalk.i64_in _ (by omega), hco]; rfl
  have hw4 : IntKind.i64.wrap (many - costN n) = many - costN n := IntWalk.i64_in _ (by omega)
  have h50 : ((50 : Int) = 0) = False := by simp
  simp only [h8, argEnv]
  refine hgo_sound 120 ?_
  simp -implicitDefEqProofs (maxSteps := 1000000) only [simpS, ↓condJ_true, ↓condJ_false, ↓reduceIte, Nat.reduceEqDiff, Nat.reduceLT, Nat.reduceLeDiff, reduceCtorEq, Nat.reduceAdd, Nat.reduceSub, Option.map_some, if_true, if_false, List.getD_cons_zero, List.getD_cons_succ, List.length_cons, List.length_nil, List.mem_cons, List.not_mem_nil, List.mem_append, List.nil_append, List.cons_append, List.append_nil, List.take_succ_cons, List.take_zero, List.drop_succ_cons, List.drop_zero, List.set_cons_zero, List.set_cons_succ, List.map_cons, List.map_nil, implies_true, forall_const, ne_eq, h50, encN_length, encN_kind, encN_gap, encN_text, encN_at, encN_kids, hw1, hw2, hw3, hw4]
  refine hx_full_box (id := σ.next + 2) (j := 4) (cs := [.int .i64 n.kind, .str n.gap, .str n.text, .int .i64 n.at_, .slice .nil 0 []]) (ot := none) 29 5 (by simp -implicitDefEqProofs (maxSteps := 1000000) only [simpS, ↓condJ_true, ↓condJ_false, ↓reduceIte, Nat.reduceEqDiff, Nat.reduceLT, Nat.reduceLeDiff, reduceCtorEq, Nat.reduceAdd, Nat.reduceSub, Option.map_some, if_true, if_false, List.getD_cons_zero, List.getD_cons_succ, List.length_cons, List.length_nil, List.mem_cons, List.not_mem_nil, List.mem_append, List.nil_append, List.cons_append, List.append_nil, List.take_succ_cons, List.take_zero, List.drop_succ_cons, List.drop_zero, List.set_cons_zero, List.set_cons_succ, List.map_cons, List.map_nil, implies_true, forall_const, ne_eq]) rfl ?_ (fun _ e => by cases e) (fun _ e => by cases e)
  simp -implicitDefEqProofs (maxSteps := 1000000) only [simpS, ↓condJ_true, ↓condJ_false, ↓reduceIte, Nat.reduceEqDiff, Nat.reduceLT, Nat.reduceLeDiff, reduceCtorEq, Nat.reduceAdd, Nat.reduceSub, Option.map_some, if_true, if_false, List.getD_cons_zero, List.getD_cons_succ, List.length_cons, List.length_nil, List.mem_cons, List.not_mem_nil, List.mem_append, List.nil_append, List.cons_append, List.append_nil, List.take_succ_cons, List.take_zero, List.drop_succ_cons, List.drop_zero, List.set_cons_zero, List.set_cons_succ, List.map_cons, List.map_nil, implies_true, forall_const, ne_eq]
  refine hx_know_code fun hw hl hn1 => ?_
  have hkl2 : ∀ ys : List Nd, ltL (σ.next + 4) [.int .i64 n.kind, .str n.gap, .str n.text, .int .i64 n.at_, .slice (.tok (σ.next + 3)) 5 (encNs ys)] := fun ys => ⟨trivial, trivial, trivial, trivial, ⟨show σ.next + 3 < σ.next + 4 by omega, encNs_lt _ _⟩, trivial⟩
  have hT : ∀ ys : List Nd, ((((σ.new (.box (encN n))).new (.box [.int .i64 0, .str ⟨#[]⟩, .str ⟨#[]⟩, .int .i64 0, .slice .nil 0 []])).new (.box [.int .i64 n.kind, .str n.gap, .str n.text, .int .i64 n.at_, .slice (.tok (σ.next + 3)) 5 (encNs ys)])).new (.tok 29 ys.length)).wf :=
    fun ys => (((hwf.box (encN_lt _ n)).box (cs := [.int .i64 0, .str ⟨#[]⟩, .str ⟨#[]⟩, .int .i64 0, .slice .nil 0 []]) ⟨trivial, trivial, trivial, trivial, ⟨trivial, trivial⟩, trivial⟩)).new2 (hkl2 ys) trivial
  have hsub : ∀ ys : List Nd, Ext σ ((((σ.new (.box (encN n))).new (.box [.int .i64 0, .str ⟨#[]⟩, .str ⟨#[]⟩, .int .i64 0, .slice .nil 0 []])).new (.box [.int .i64 n.kind, .str n.gap, .str n.text, .int .i64 n.at_, .slice (.tok (σ.next + 3)) 5 (encNs ys)])).new (.tok 29 ys.length)) := fun ys => ((((Ext.refl σ).new _).new _).new _).new _
  refine hx_loop (S := DcS) (fun s => [(1, .int .i64 s.many), (4, .ptr (σ.next + 1) 0), (6, .ptr (σ.next + 2) 0), (31, .slice .no 5 (encNs n.kids)), (32, .int .i64 ((encNs n.kids).length : Int)), (33, .int .i64 s.j)])
    (fun s => ((((σ.new (.box (encN n))).new (.box [.int .i64 0, .str ⟨#[]⟩, .str ⟨#[]⟩, .int .i64 0, .slice .nil 0 []])).new (.box [.int .i64 n.kind, .str n.gap, .str n.text, .int .i64 n.at_, .slice (.tok (σ.next + 3)) 5 (encNs s.ys)])).new (.tok 29 s.ys.length)))
    (fun s => s.j ≤ n.kids.length ∧ s.ys.length = s.j ∧ s.many ≤ many - costN n ∧ (0 ≤ s.many → (s.j : Int) + s.many ≤ many) ∧ docNs (n.kids.drop s.j) s.many = docN n many ∧ (0 ≤ s.many → s.ys = n.kids.take s.j)) (fun s => n.kids.length - s.j) ⟨0, many - costN n, []⟩
    ⟨Nat.zero_le _, rfl, Int.le_refl _, by simp only; omega, hdoc.symm, fun _ => rfl⟩ (fun _ _ h => by rw [hr] at h; cases h) ?_ ?_
  · exact Drop.all hw hn1 ⟨⟨rfl, trivial⟩, ⟨rfl, show σ.next + 1 < σ.next + 4 by omega⟩, ⟨rfl, show σ.next + 2 < σ.next + 4 by omega⟩, ⟨rfl, ⟨trivial, encNs_lt _ _⟩⟩, ⟨rfl, trivial⟩, ⟨rfl, trivial⟩, trivial⟩
  rintro ⟨j, m, ys⟩ ⟨j1, j2, j3, j4, j6, j7⟩
  simp only at j1 j2 j3 j4 j6 j7 ⊢
  have hjc : ((j : Int) < ((encNs n.kids).length : Int)) = (j < n.kids.length) := by rw [encNs_length]; simp
  by_cases hj : j < n.kids.length
  · have hjd : decide (((j : Nat) : Int) < ((encNs n.kids).length : Int)) = true := by simp [hjc, hj]
    have hget : (encNs n.kids).getD j [] = encN n.kids[j] := encNs_get hj
    have hjp : ((j : Int) < ((encNs n.kids).length : Int)) := by rw [encNs_length]; omega
    have hdrop : n.kids.drop j = n.kids[j] :: n.kids.drop (j + 1) := List.drop_eq_getElem_cons hj
    rw [hdrop] at j6
    simp only [docNs] at j6
    have hcm := cntN_mem (List.getElem_mem hj)
    have hwr : IntKind.i64.wrap ((j : Int) + 1) = ((j + 1 : Nat) : Int) := by rw [IntWalk.i64_in _ (by omega)]; rfl
    by_cases hneg : m < 0
    · have hnd : decide (m < 0) = true := by simp [hneg]
      rw [if_pos hneg] at j6
      refine hgo_sound 60 ?_
      simp -implicitDefEqProofs (maxSteps := 1000000) only [simpS, ↓condJ_true, ↓condJ_false, ↓reduceIte, Nat.reduceEqDiff, Nat.reduceLT, Nat.reduceLeDiff, reduceCtorEq, Nat.reduceAdd, Nat.reduceSub, Option.map_some, if_true, if_false, List.getD_cons_zero, List.getD_cons_succ, List.length_cons, List.length_nil, List.mem_cons, List.not_mem_nil, List.mem_append, List.nil_append, List.cons_append, List.append_nil, List.take_succ_cons, List.take_zero, List.drop_succ_cons, List.drop_zero, List.set_cons_zero, List.set_cons_succ, List.map_cons, List.map_nil, implies_true, forall_const, ne_eq, hjd, hjp, Int.toNat_natCast, Int.natCast_nonneg, hget, encN_length, encN_take, hnd]
      exact fpost_strip (σ0 := σ) (ds := [.agg [.int .i64 n.kind, .str n.gap, .str n.text, .int .i64 n.at_, .slice (.tok (σ.next + 3)) 5 (encNs ys)], .int .i64 (-1)]) (d := .tuple [.agg (encN (.mk n.kind n.gap n.text n.at_ ys)), .int .i64 (-1)]) (by simp only [tupD, frzD, frzL, if_true, encN]; exact Wk.refl _) (.inr rfl) (by rw [hnx]; exact Nat.le_refl _) hwf (((((((Ext.refl σ).new _).new _).new _).new _).new _).sub hwf) (resD_cellS (ot := none) (t := 4) (id := σ.next + 1) (cs := [.int .i64 n.kind, .str n.gap, .str n.text, .int .i64 n.at_, .slice (.tok (σ.next + 3)) 5 (encNs ys)]) rfl (by simp -implicitDefEqProofs (maxSteps := 1000000) only [simpS, ↓condJ_true, ↓condJ_false, ↓reduceIte, Nat.reduceEqDiff, Nat.reduceLT, Nat.reduceLeDiff, reduceCtorEq, Nat.reduceAdd, Nat.reduceSub, Option.map_some, if_true, if_false, List.getD_cons_zero, List.getD_cons_succ, List.length_cons, List.length_nil, List.mem_cons, List.not_mem_nil, List.mem_append, List.nil_append, List.cons_append, List.append_nil, List.take_succ_cons, List.take_zero, List.drop_succ_cons, List.drop_zero, List.set_cons_zero, List.set_cons_succ, List.map_cons, List.map_nil, implies_true, forall_const, ne_eq]) rfl rfl) ⟨Nat.le_refl 5, trivial⟩ (by simp only [tupD, frzD, frzL, if_true]; exact ⟨⟨trivial, trivial, trivial, trivial, ⟨trivial, encNs_lt _ _⟩, trivial⟩, trivial, trivial⟩) ⟨⟨.mk n.kind n.gap n.text n.at_ ys, by rw [← j6], fun h => by omega⟩, rfl⟩
    · have hnd : decide (m < 0) = false := by simp [hneg]
      rw [if_neg hneg] at j6
      refine hgo_sound 60 ?_
      simp -implicitDefEqProofs (maxSteps := 1000000) only [simpS, ↓condJ_true, ↓condJ_false, ↓reduceIte, Nat.reduceEqDiff, Nat.reduceLT, Nat.reduceLeDiff, reduceCtorEq, Nat.reduceAdd, Nat.reduceSub, Option.map_some, if_true, if_false, List.getD_cons_zero, List.getD_cons_succ, List.length_cons, List.length_nil, List.mem_cons, List.not_mem_nil, List.mem_append, List.nil_append, List.cons_append, List.append_nil, List.take_succ_cons, List.take_zero, List.drop_succ_cons, List.drop_zero, List.set_cons_zero, List.set_cons_succ, List.map_cons, List.map_nil, implies_true, forall_const, ne_eq, hjd, hjp, Int.toNat_natCast, Int.natCast_nonneg, hget, encN_length, encN_take, hnd]
      refine hx_call (f := .fn 8) rfl (by rw [hP]; exact hcallD_func (ih n.kids[j] (by omega) (fitNs_mem fk (List.getElem_mem hj)) m (by omega) (by omega) _)) ?_
      rintro _ _ ⟨⟨x, rfl, hx⟩, rfl⟩
      refine hgo_sound 90 ?_
      simp -implicitDefEqProofs (maxSteps := 1000000) only [simpS, ↓condJ_true, ↓condJ_false, ↓reduceIte, Nat.reduceEqDiff, Nat.reduceLT, Nat.reduceLeDiff, reduceCtorEq, Nat.reduceAdd, Nat.reduceSub, Option.map_some, if_true, if_false, List.getD_cons_zero, List.getD_cons_succ, List.length_cons, List.length_nil, List.mem_cons, List.not_mem_nil, List.mem_append, List.nil_append, List.cons_append, List.append_nil, List.take_succ_cons, List.take_zero, List.drop_succ_cons, List.drop_zero, List.set_cons_zero, List.set_cons_succ, List.map_cons, List.map_nil, implies_true, forall_const, ne_eq, encN_length, encN_take, hwr]
      have hb1 : (ys.length + 1) * 72 ≤ 140737488355328 := by omega
      have hlt := docN_lt n.kids[j] m (by omega)
      have hen : encNs ys ++ [encN x] = encNs (ys ++ [x]) := by simp only [encNs_eq, List.map_append, List.map_cons, List.map_nil]
      refine ⟨⟨(encNs_length _).symm, by rw [encNs_length]; exact hb1, by rw [encNs_length]; omega⟩, fun hw2 hl2 hn2 => ?_⟩
      refine ⟨⟨j + 1, docN n.kids[j] m, ys ++ [x]⟩, ⟨by simp only; omega, by simp only [List.length_append, List.length_singleton]; omega, by simp only; omega, by simp only; omega, j6, ?_⟩, by simp only; omega, ?_⟩
      · intro h0
        simp only at h0 ⊢
        rw [j7 (by omega), hx h0, List.take_add_one]
        simp [hj]
      · simp only [hen]
        have hlen1 : ys.length + 1 = (ys ++ [x]).length := by simp
        rw [hlen1]
        refine Drop.allS ((((Ext.refl _).new _).new _).sub (hT (ys ++ [x]))) (hT (ys ++ [x])) hn1 ⟨⟨rfl, trivial⟩, ⟨rfl, show σ.next + 1 < σ.next + 4 by omega⟩, ⟨rfl, show σ.next + 2 < σ.next + 4 by omega⟩, ⟨rfl, ⟨trivial, encNs_lt _ _⟩⟩, ⟨rfl, trivial⟩, ⟨rfl, trivial⟩, trivial⟩
  · have hjd : decide (((j : Nat) : Int) < ((encNs n.kids).length : Int)) = false := by simp [hjc, hj]
    have hdrop : n.kids.drop j = [] := List.drop_eq_nil_of_le (by omega)
    rw [hdrop] at j6
    simp only [docNs] at j6
    refine hgo_sound 60 ?_
    simp -implicitDefEqProofs (maxSteps := 1000000) only [simpS, ↓condJ_true, ↓condJ_false, ↓reduceIte, Nat.reduceEqDiff, Nat.reduceLT, Nat.reduceLeDiff, reduceCtorEq, Nat.reduceAdd, Nat.reduceSub, Option.map_some, if_true, if_false, List.getD_cons_zero, List.getD_cons_succ, List.length_cons, List.length_nil, List.mem_cons, List.not_mem_nil, List.mem_append, List.nil_append, List.cons_append, List.append_nil, List.take_succ_cons, List.take_zero, List.drop_succ_cons, List.drop_zero, List.set_cons_zero, List.set_cons_succ, List.map_cons, List.map_nil, implies_true, forall_const, ne_eq, hjd]
    exact fpost_strip (σ0 := σ) (ds := [.agg [.int .i64 n.kind, .str n.gap, .str n.text, .int .i64 n.at_, .slice (.tok (σ.next + 3)) 5 (encNs ys)], .int .i64 (m)]) (d := .tuple [.agg (encN (.mk n.kind n.gap n.text n.at_ ys)), .int .i64 (m)]) (by simp only [tupD, frzD, frzL, if_true, encN]; exact Wk.refl _) (.inr rfl) (by rw [hnx]; exact Nat.le_refl _) hwf ((((((Ext.refl σ).new _).new _).new _).new _).sub hwf) (resD_cellS (ot := none) (t := 4) (id := σ.next + 1) (cs := [.int .i64 n.kind, .str n.gap, .str n.text, .int .i64 n.at_, .slice (.tok (σ.next + 3)) 5 (encNs ys)]) rfl (by simp -implicitDefEqProofs (maxSteps := 1000000) only [simpS, ↓condJ_true, ↓condJ_false, ↓reduceIte, Nat.reduceEqDiff, Nat.reduceLT, Nat.reduceLeDiff, reduceCtorEq, Nat.reduceAdd, Nat.reduceSub, Option.map_some, if_true, if_false, List.getD_cons_zero, List.getD_cons_succ, List.length_cons, List.length_nil, List.mem_cons, List.not_mem_nil, List.mem_append, List.nil_append, List.cons_append, List.append_nil, List.take_succ_cons, List.take_zero, List.drop_succ_cons, List.drop_zero, List.set_cons_zero, List.set_cons_succ, List.map_cons, List.map_nil, implies_true, forall_const, ne_eq]) rfl rfl) ⟨Nat.le_refl 5, trivial⟩ (by simp only [tupD, frzD, frzL, if_true]; exact ⟨⟨trivial, trivial, trivial, trivial, ⟨trivial, encNs_lt _ _⟩, trivial⟩, trivial, trivial⟩) ⟨⟨.mk n.kind n.gap n.text n.at_ ys, by rw [← j6], fun h => by
      rw [← j6] at h
      have h7 := j7 h
      rw [List.take_of_length_le (by omega)] at h7
      rw [h7]
      cases n
      rfl⟩, rfl⟩

end Go.Hl
