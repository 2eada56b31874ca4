/-
  The reference: Strip.
-/
import Derived.Test.YtlaljehmcacmjaaTrAa
set_option linter.unusedSectionVars false
set_option linter.unusedVariables false
set_option linter.unusedSimpArgs false
set_option maxRecDepth 100000
namespace Go.Hl
open Go Go.Proofs

mutual
def rstN : Nd → Nd
  | .mk k g t a ks => .mk k ⟨#[]⟩ t 0 (rstNs ks)
def rstNs : List Nd → List Nd
  | [] => []
  | n :: ns => rstN n :: rstNs ns
end
theorem rstNs_map : ∀ ns, rstNs ns = ns.map rstN
  | [] => rfl
  | n :: ns => by simp only [rstNs, List.map_cons, rstNs_map ns]

structure RtS where
  j : Nat

theorem rstrip_calls : ∀ (sz : Nat) (n : Nd), cntN n ≤ sz → sz ≤ 1099511627776 → ∀ (σ : St), HCalls Try.prog 28 [.agg (encN n)] σ (fun d σ' => d = .agg (encN (rstN n)) ∧ σ' = σ) := by
  intro sz
  induction sz with
  | zero => intro n hn; have := cntN_pos n; omega
  | succ sz ih =>
  intro n hn hsz σ
  refine hcalls_body (fn := Try.f28) rfl c28 (by simp [h28]) (by simp [h28, Try.f28]) ?_
  intro M hP hr hnt hnx hwf hlt
  have hnt' : M.nt = 29 := hnt
  have hks := cntN_kids n
  have hkl := kids_le n.kids
  have hrn : rstN n = .mk n.kind ⟨#[]⟩ n.text 0 (rstNs n.kids) := by cases n; rfl
  simp only [h28, argEnv]
  refine hgo_sound 60 ?_
  simp -implicitDefEqProofs (maxSteps := 1000000) only [simpS, ↓condJ_true, ↓condJ_false, ↓reduceIte, Nat.reduceEqDiff, Nat.reduceLT, Nat.reduceLeDiff, reduceCtorEq, Nat.reduceAdd, Nat.reduceSub, Option.map_some, if_true, if_false, List.getD_cons_zero, List.getD_cons_succ, List.length_cons, List.length_nil, List.mem_cons, List.not_mem_nil, List.mem_append, List.nil_append, List.cons_append, List.append_nil, List.take_succ_cons, List.take_zero, List.drop_succ_cons, List.drop_zero, List.set_cons_zero, List.set_cons_succ, List.map_cons, List.map_nil, implies_true, forall_const, ne_eq, encN_length, encN_kind, encN_text]
  refine hx_full_box (id := σ.next + 2) (j := 4) (cs := [.int .i64 n.kind, .str ⟨#[]⟩, .str n.text, .int .i64 0, .slice .nil 0 []]) (ot := none) 29 5 (by simp -implicitDefEqProofs (maxSteps := 1000000) only [simpS, ↓condJ_true, ↓condJ_false, ↓reduceIte, Nat.reduceEqDiff, Nat.reduceLT, Nat.reduceLeDiff, reduceCtorEq, Nat.reduceAdd, Nat.reduceSub, Option.map_some, if_true, if_false, List.getD_cons_zero, List.getD_cons_succ, List.length_cons, List.length_nil, List.mem_cons, List.not_mem_nil, List.mem_append, List.nil_append, List.cons_append, List.append_nil, List.take_succ_cons, List.take_zero, List.drop_succ_cons, List.drop_zero, List.set_cons_zero, List.set_cons_succ, List.map_cons, List.map_nil, implies_true, forall_const, ne_eq]) rfl ?_ (fun _ e => by cases e) (fun _ e => by cases e)
  simp -implicitDefEqProofs (maxSteps := 1000000) only [simpS, ↓condJ_true, ↓condJ_false, ↓reduceIte, Nat.reduceEqDiff, Nat.reduceLT, Nat.reduceLeDiff, reduceCtorEq, Nat.reduceAdd, Nat.reduceSub, Option.map_some, if_true, if_false, List.getD_cons_zero, List.getD_cons_succ, List.length_cons, List.length_nil, List.mem_cons, List.not_mem_nil, List.mem_append, List.nil_append, List.cons_append, List.append_nil, List.take_succ_cons, List.take_zero, List.drop_succ_cons, List.drop_zero, List.set_cons_zero, List.set_cons_succ, List.map_cons, List.map_nil, implies_true, forall_const, ne_eq]
  refine hx_know_code fun hw hl hn1 => ?_
  have hkl2 : ∀ ys : List Nd, ltL (σ.next + 4) [.int .i64 n.kind, .str ⟨#[]⟩, .str n.text, .int .i64 0, .slice (.tok (σ.next + 3)) 5 (encNs ys)] := fun ys => ⟨trivial, trivial, trivial, trivial, ⟨show σ.next + 3 < σ.next + 4 by omega, encNs_lt _ _⟩, trivial⟩
  have hT : ∀ ys : List Nd, ((((σ.new (.box (encN n))).new (.box [.int .i64 0, .str ⟨#[]⟩, .str ⟨#[]⟩, .int .i64 0, .slice .nil 0 []])).new (.box [.int .i64 n.kind, .str ⟨#[]⟩, .str n.text, .int .i64 0, .slice (.tok (σ.next + 3)) 5 (encNs ys)])).new (.tok 29 ys.length)).wf :=
    fun ys => (((hwf.box (encN_lt _ n)).box (cs := [.int .i64 0, .str ⟨#[]⟩, .str ⟨#[]⟩, .int .i64 0, .slice .nil 0 []]) ⟨trivial, trivial, trivial, trivial, ⟨trivial, trivial⟩, trivial⟩)).new2 (hkl2 ys) trivial
  refine hx_loop (S := RtS) (fun s => [(1, .ptr σ.next 0), (2, .ptr (σ.next + 1) 0), (3, .ptr (σ.next + 2) 0), (4, .int .i64 s.j)])
    (fun s => ((((σ.new (.box (encN n))).new (.box [.int .i64 0, .str ⟨#[]⟩, .str ⟨#[]⟩, .int .i64 0, .slice .nil 0 []])).new (.box [.int .i64 n.kind, .str ⟨#[]⟩, .str n.text, .int .i64 0, .slice (.tok (σ.next + 3)) 5 (encNs (rstNs (n.kids.take s.j)))])).new (.tok 29 (rstNs (n.kids.take s.j)).length)))
    (fun s => s.j ≤ n.kids.length) (fun s => n.kids.length - s.j) ⟨0⟩
    (Nat.zero_le _) (fun _ _ h => by rw [hr] at h; cases h) ?_ ?_
  · exact Drop.all hw hn1 ⟨⟨rfl, show σ.next < σ.next + 4 by omega⟩, ⟨rfl, show σ.next + 1 < σ.next + 4 by omega⟩, ⟨rfl, show σ.next + 2 < σ.next + 4 by omega⟩, ⟨rfl, trivial⟩, trivial⟩
  rintro ⟨j⟩ j1
  simp only at j1 ⊢
  have hyl : (rstNs (n.kids.take j)).length = j := by rw [rstNs_map, List.length_map, List.length_take]; omega
  have hjc : ((j : Int) < ((encNs n.kids).length : Int)) = (j < n.kids.length) := by rw [encNs_length]; simp
  by_cases hj : j < n.kids.length
  · have hjd : decide (((j : Nat) : Int) < ((encNs n.kids).length : Int)) = true := by simp [hjc, hj]
    have hget : (encNs n.kids).getD j [] = encN n.kids[j] := encNs_get hj
    have hjp : ((j : Int) < ((encNs n.kids).length : Int)) := by rw [encNs_length]; omega
    have hcm := cntN_mem (List.getElem_mem hj)
    have hwr : IntKind.i64.wrap ((j : Int) + 1) = ((j + 1 : Nat) : Int) := by rw [IntWalk.i64_in _ (by omega)]; rfl
    refine hgo_sound 60 ?_
    simp -implicitDefEqProofs (maxSteps := 1000000) only [simpS, ↓condJ_true, ↓condJ_false, ↓reduceIte, Nat.reduceEqDiff, Nat.reduceLT, Nat.reduceLeDiff, reduceCtorEq, Nat.reduceAdd, Nat.reduceSub, Option.map_some, if_true, if_false, List.getD_cons_zero, List.getD_cons_succ, List.length_cons, List.length_nil, List.mem_cons, List.not_mem_nil, List.mem_append, List.nil_append, List.cons_append, List.append_nil, List.take_succ_cons, List.take_zero, List.drop_succ_cons, List.drop_zero, List.set_cons_zero, List.set_cons_succ, List.map_cons, List.map_nil, implies_true, forall_const, ne_eq, encN_kids, encN_length, hjd]
    refine hx_drawgo 1 ?_
    simp -implicitDefEqProofs (maxSteps := 3000000) only [drawS, List.map_cons, List.map_nil, List.getElem?_cons_zero, List.getElem?_cons_succ, List.getElem?_nil, simpS, ↓condJ_true, ↓condJ_false, ↓reduceIte, Nat.reduceEqDiff, Nat.reduceLT, Nat.reduceLeDiff, reduceCtorEq, Nat.reduceAdd, Nat.reduceSub, Option.map_some, if_true, if_false, List.getD_cons_zero, List.getD_cons_succ, List.length_cons, List.length_nil, List.mem_cons, List.not_mem_nil, List.mem_append, List.nil_append, List.cons_append, List.append_nil, List.take_succ_cons, List.take_zero, List.drop_succ_cons, List.drop_zero, List.set_cons_zero, List.set_cons_succ, List.map_cons, List.map_nil, implies_true, forall_const, ne_eq, hnt', encN_length, encN_take, encN_kids, hjp, Int.toNat_natCast, Int.natCast_nonneg, hget]
    refine hd_call (i := 7) (f := .fn 28) (by simp -implicitDefEqProofs (maxSteps := 3000000) only [drawS, List.map_cons, List.map_nil, List.getElem?_cons_zero, List.getElem?_cons_succ, List.getElem?_nil, simpS, ↓condJ_true, ↓condJ_false, ↓reduceIte, Nat.reduceEqDiff, Nat.reduceLT, Nat.reduceLeDiff, reduceCtorEq, Nat.reduceAdd, Nat.reduceSub, Option.map_some, if_true, if_false, List.getD_cons_zero, List.getD_cons_succ, List.length_cons, List.length_nil, List.mem_cons, List.not_mem_nil, List.mem_append, List.nil_append, List.cons_append, List.append_nil, List.take_succ_cons, List.take_zero, List.drop_succ_cons, List.drop_zero, List.set_cons_zero, List.set_cons_succ, List.map_cons, List.map_nil, implies_true, forall_const, ne_eq, hnt', encN_length, encN_take, encN_kids, hjp, Int.toNat_natCast, Int.natCast_nonneg, hget]) (by rfl) (by rfl) rfl (by rfl) (by rw [hP]; exact hcallD_func (ih n.kids[j] (by omega) (by omega) _)) ?_
    rintro _ σ2 ⟨rfl, h⟩
    subst σ2
    refine hdgo_sound 4 ?_
    simp -implicitDefEqProofs (maxSteps := 3000000) only [drawS, List.map_cons, List.map_nil, List.getElem?_cons_zero, List.getElem?_cons_succ, List.getElem?_nil, simpS, ↓condJ_true, ↓condJ_false, ↓reduceIte, Nat.reduceEqDiff, Nat.reduceLT, Nat.reduceLeDiff, reduceCtorEq, Nat.reduceAdd, Nat.reduceSub, Option.map_some, if_true, if_false, List.getD_cons_zero, List.getD_cons_succ, List.length_cons, List.length_nil, List.mem_cons, List.not_mem_nil, List.mem_append, List.nil_append, List.cons_append, List.append_nil, List.take_succ_cons, List.take_zero, List.drop_succ_cons, List.drop_zero, List.set_cons_zero, List.set_cons_succ, List.map_cons, List.map_nil, implies_true, forall_const, ne_eq, hnt', encN_length, encN_take, encN_kids, hjp, Int.toNat_natCast, Int.natCast_nonneg, hget]
    have htk : rstNs (n.kids.take (j + 1)) = rstNs (n.kids.take j) ++ [rstN n.kids[j]] := by rw [rstNs_map, rstNs_map, List.take_add_one, List.map_append]; simp [hj]
    have hen : encNs (rstNs (n.kids.take j)) ++ [encN (rstN n.kids[j])] = encNs (rstNs (n.kids.take (j + 1))) := by rw [htk]; simp only [encNs_eq, List.map_append, List.map_cons, List.map_nil]
    have hln : (rstNs (n.kids.take j)).length + 1 = (rstNs (n.kids.take (j + 1))).length := by rw [htk]; simp
    refine ⟨⟨(encNs_length _).symm, by rw [encNs_length, hyl]; omega, by rw [encNs_length, hyl]; omega⟩, ?_⟩
    refine hgo_sound 60 ?_
    simp -implicitDefEqProofs (maxSteps := 1000000) only [simpS, ↓condJ_true, ↓condJ_false, ↓reduceIte, Nat.reduceEqDiff, Nat.reduceLT, Nat.reduceLeDiff, reduceCtorEq, Nat.reduceAdd, Nat.reduceSub, Option.map_some, if_true, if_false, List.getD_cons_zero, List.getD_cons_succ, List.length_cons, List.length_nil, List.mem_cons, List.not_mem_nil, List.mem_append, List.nil_append, List.cons_append, List.append_nil, List.take_succ_cons, List.take_zero, List.drop_succ_cons, List.drop_zero, List.set_cons_zero, List.set_cons_succ, List.map_cons, List.map_nil, implies_true, forall_const, ne_eq, hwr]
    intro hw2 hl2 hn2
    refine ⟨⟨j + 1⟩, by simp only; omega, by simp only; omega, ?_⟩
    simp only [hen]
    rw [hln]
    exact Drop.all (hT _) hn1 ⟨⟨rfl, show σ.next < σ.next + 4 by omega⟩, ⟨rfl, show σ.next + 1 < σ.next + 4 by omega⟩, ⟨rfl, show σ.next + 2 < σ.next + 4 by omega⟩, ⟨rfl, trivial⟩, trivial⟩
  · have hjd : decide (((j : Nat) : Int) < ((encNs n.kids).length : Int)) = false := by simp [hjc, hj]
    have htk : n.kids.take j = n.kids := List.take_of_length_le (by omega)
    rw [htk]
    refine hgo_sound 60 ?_
    simp -implicitDefEqProofs (maxSteps := 1000000) only [simpS, ↓condJ_true, ↓condJ_false, ↓reduceIte, Nat.reduceEqDiff, Nat.reduceLT, Nat.reduceLeDiff, reduceCtorEq, Nat.reduceAdd, Nat.reduceSub, Option.map_some, if_true, if_false, List.getD_cons_zero, List.getD_cons_succ, List.length_cons, List.length_nil, List.mem_cons, List.not_mem_nil, List.mem_append, List.nil_append, List.cons_append, List.append_nil, List.take_succ_cons, List.take_zero, List.drop_succ_cons, List.drop_zero, List.set_cons_zero, List.set_cons_succ, List.map_cons, List.map_nil, implies_true, forall_const, ne_eq, encN_kids, encN_length, hjd]
    exact fpost_strip (σ0 := σ) (ds := [.agg [.int .i64 n.kind, .str ⟨#[]⟩, .str n.text, .int .i64 0, .slice (.tok (σ.next + 3)) 5 (encNs (rstNs n.kids))]]) (d := .agg (encN (rstN n))) (by rw [hrn]; simp only [tupD, frzD, frzL, if_true, encN]; exact Wk.refl _) (.inr rfl) (by rw [hnx]; exact Nat.le_refl _) hwf ((((((Ext.refl σ).new _).new _).new _).new _).sub hwf)
      (resD_cellS (ot := none) (t := 2) (id := σ.next + 1) (cs := [.int .i64 n.kind, .str ⟨#[]⟩, .str n.text, .int .i64 0, .slice (.tok (σ.next + 3)) 5 (encNs (rstNs n.kids))]) rfl (by simp -implicitDefEqProofs (maxSteps := 1000000) only [simpS, ↓condJ_true, ↓condJ_false, ↓reduceIte, Nat.reduceEqDiff, Nat.reduceLT, Nat.reduceLeDiff, reduceCtorEq, Nat.reduceAdd, Nat.reduceSub, Option.map_some, if_true, if_false, List.getD_cons_zero, List.getD_cons_succ, List.length_cons, List.length_nil, List.mem_cons, List.not_mem_nil, List.mem_append, List.nil_append, List.cons_append, List.append_nil, List.take_succ_cons, List.take_zero, List.drop_succ_cons, List.drop_zero, List.set_cons_zero, List.set_cons_succ, List.map_cons, List.map_nil, implies_true, forall_const, ne_eq]) rfl resD_nil) ⟨Nat.le_refl 5, trivial⟩ (by simp only [tupD, frzD, frzL, if_true]; exact ⟨trivial, trivial, trivial, trivial, ⟨trivial, encNs_lt _ _⟩, trivial⟩) ⟨rfl, rfl⟩

end Go.Hl
