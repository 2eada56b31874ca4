/-
  The reference: Place.
-/
import Derived.Test.YtlaljehmcacmjaaTrAb
set_option linter.unusedSectionVars false
set_option linter.unusedVariables false
set_option linter.unusedSimpArgs false
set_option maxRecDepth 100000
namespace Go.Hl
open Go Go.Proofs

mutual
def rplN : Nd → Int → Int × Nd
  | .mk k g t a ks, z => if k = 1 then (plStep z (.mk k g t a ks), plNd z (.mk k g t a ks)) else ((rplNs ks z).1, .mk k ⟨#[]⟩ ⟨#[]⟩ 0 (rplNs ks z).2)
def rplNs : List Nd → Int → Int × List Nd
  | [], z => (z, [])
  | n :: ns, z => ((rplNs ns (rplN n z).1).1, (rplN n z).2 :: (rplNs ns (rplN n z).1).2)
end

structure RpS where
  j : Nat
  z : Int
  ys : List Nd

theorem rplace_calls : ∀ (sz : Nat) (n : Nd), cntN n ≤ sz → sz ≤ 1099511627776 → ∀ (z : Int) (σ : St), HCalls Try.prog 29 [.agg (encN n), .int .i64 z] σ (fun d σ' => d = .tuple [.agg (encN (rplN n z).2), .int .i64 (rplN n z).1] ∧ σ' = σ) := by
  intro sz
  induction sz with
  | zero => intro n hn; have := cntN_pos n; omega
  | succ sz ih =>
  intro n hn hsz z σ
  refine hcalls_body (fn := Try.f29) rfl c29 (by simp [h29]) (by simp [h29, Try.f29]) ?_
  intro M hP hr hnt hnx hwf hlt
  have hnt' : M.nt = 55 := hnt
  have hks := cntN_kids n
  have hkl := kids_le n.kids
  simp only [h29, argEnv]
  by_cases hk : n.kind = 1
  · obtain ⟨k, g, t, a, ks⟩ := n
    have hk' : k = 1 := hk
    have hkd : (k == 1) = true := by rw [hk']; rfl
    have hrn : rplN (.mk k g t a ks) z = (plStep z (.mk k g t a ks), plNd z (.mk k g t a ks)) := by simp only [rplN, if_pos hk']
    rw [hrn]
    have hx : encN (.mk k g t a ks) = [.int .i64 k, .str g, .str t, .int .i64 a, .slice .no 5 (encNs ks)] := by simp only [encN]
    rw [hx]
    refine hgo_sound 60 ?_
    simp -implicitDefEqProofs (maxSteps := 1000000) only [simpS, ↓condJ_true, ↓condJ_false, ↓reduceIte, Nat.reduceEqDiff, Nat.reduceLT, Nat.reduceLeDiff, reduceCtorEq, Nat.reduceAdd, Nat.reduceSub, Option.map_some, if_true, if_false, List.getD_cons_zero, List.getD_cons_succ, List.length_cons, List.length_nil, List.mem_cons, List.not_mem_nil, List.mem_append, List.nil_append, List.cons_append, List.append_nil, List.take_succ_cons, List.take_zero, List.drop_succ_cons, List.drop_zero, List.set_cons_zero, List.set_cons_succ, List.map_cons, List.map_nil, implies_true, forall_const, ne_eq, hkd]
    refine hx_drawgo 4 ?_
    simp -implicitDefEqProofs (maxSteps := 3000000) only [drawS, List.map_cons, List.map_nil, List.getElem?_cons_zero, List.getElem?_cons_succ, List.getElem?_nil, simpS, ↓condJ_true, ↓condJ_false, ↓reduceIte, Nat.reduceEqDiff, Nat.reduceLT, Nat.reduceLeDiff, reduceCtorEq, Nat.reduceAdd, Nat.reduceSub, Option.map_some, if_true, if_false, List.getD_cons_zero, List.getD_cons_succ, List.length_cons, List.length_nil, List.mem_cons, List.not_mem_nil, List.mem_append, List.nil_append, List.cons_append, List.append_nil, List.take_succ_cons, List.take_zero, List.drop_succ_cons, List.drop_zero, List.set_cons_zero, List.set_cons_succ, List.map_cons, List.map_nil, implies_true, forall_const, ne_eq, hnt']
    exact hx_ret (fpost_pure (σ0 := σ) (.inr rfl) (by rw [hnx]; exact Nat.le_refl _) hwf ((((Ext.refl σ).new _).new _).sub hwf) (ds := [.agg (encN (plNd z (.mk k g t a ks))), .int .i64 (plStep z (.mk k g t a ks))])
      (resD_cellS (ot := none) (t := 4) (id := σ.next + 1) (cs := encN (plNd z (.mk k g t a ks))) rfl (by simp -implicitDefEqProofs (maxSteps := 1000000) only [simpS, ↓condJ_true, ↓condJ_false, ↓reduceIte, Nat.reduceEqDiff, Nat.reduceLT, Nat.reduceLeDiff, reduceCtorEq, Nat.reduceAdd, Nat.reduceSub, Option.map_some, if_true, if_false, List.getD_cons_zero, List.getD_cons_succ, List.length_cons, List.length_nil, List.mem_cons, List.not_mem_nil, List.mem_append, List.nil_append, List.cons_append, List.append_nil, List.take_succ_cons, List.take_zero, List.drop_succ_cons, List.drop_zero, List.set_cons_zero, List.set_cons_succ, List.map_cons, List.map_nil, implies_true, forall_const, ne_eq, plNd, encN]; rfl) (encN_length _) rfl) ⟨by rw [encN_length]; exact Nat.le_refl _, trivial⟩ ⟨encN_lt _ _, trivial, trivial⟩ ⟨rfl, rfl⟩)
  · have hkd : (n.kind == 1) = false := by simp [hk]
    have hrn : rplN n z = ((rplNs n.kids z).1, .mk n.kind ⟨#[]⟩ ⟨#[]⟩ 0 (rplNs n.kids z).2) := by
      cases n
      exact if_neg hk
    rw [hrn]
    refine hgo_sound 60 ?_
    simp -implicitDefEqProofs (maxSteps := 1000000) only [simpS, ↓condJ_true, ↓condJ_false, ↓reduceIte, Nat.reduceEqDiff, Nat.reduceLT, Nat.reduceLeDiff, reduceCtorEq, Nat.reduceAdd, Nat.reduceSub, Option.map_some, if_true, if_false, List.getD_cons_zero, List.getD_cons_succ, List.length_cons, List.length_nil, List.mem_cons, List.not_mem_nil, List.mem_append, List.nil_append, List.cons_append, List.append_nil, List.take_succ_cons, List.take_zero, List.drop_succ_cons, List.drop_zero, List.set_cons_zero, List.set_cons_succ, List.map_cons, List.map_nil, implies_true, forall_const, ne_eq, encN_length, encN_kind, hkd]
    refine hx_full_box (id := σ.next + 2) (j := 4) (cs := [.int .i64 n.kind, .str ⟨#[]⟩, .str ⟨#[]⟩, .int .i64 0, .slice .nil 0 []]) (ot := none) 29 5 (by simp -implicitDefEqProofs (maxSteps := 1000000) only [simpS, ↓condJ_true, ↓condJ_false, ↓reduceIte, Nat.reduceEqDiff, Nat.reduceLT, Nat.reduceLeDiff, reduceCtorEq, Nat.reduceAdd, Nat.reduceSub, Option.map_some, if_true, if_false, List.getD_cons_zero, List.getD_cons_succ, List.length_cons, List.length_nil, List.mem_cons, List.not_mem_nil, List.mem_append, List.nil_append, List.cons_append, List.append_nil, List.take_succ_cons, List.take_zero, List.drop_succ_cons, List.drop_zero, List.set_cons_zero, List.set_cons_succ, List.map_cons, List.map_nil, implies_true, forall_const, ne_eq]) rfl ?_ (fun _ e => by cases e) (fun _ e => by cases e)
    simp -implicitDefEqProofs (maxSteps := 1000000) only [simpS, ↓condJ_true, ↓condJ_false, ↓reduceIte, Nat.reduceEqDiff, Nat.reduceLT, Nat.reduceLeDiff, reduceCtorEq, Nat.reduceAdd, Nat.reduceSub, Option.map_some, if_true, if_false, List.getD_cons_zero, List.getD_cons_succ, List.length_cons, List.length_nil, List.mem_cons, List.not_mem_nil, List.mem_append, List.nil_append, List.cons_append, List.append_nil, List.take_succ_cons, List.take_zero, List.drop_succ_cons, List.drop_zero, List.set_cons_zero, List.set_cons_succ, List.map_cons, List.map_nil, implies_true, forall_const, ne_eq]
    refine hx_know_code fun hw hl hn1 => ?_
    have hkl2 : ∀ ys : List Nd, ltL (σ.next + 4) [.int .i64 n.kind, .str ⟨#[]⟩, .str ⟨#[]⟩, .int .i64 0, .slice (.tok (σ.next + 3)) 5 (encNs ys)] := fun ys => ⟨trivial, trivial, trivial, trivial, ⟨show σ.next + 3 < σ.next + 4 by omega, encNs_lt _ _⟩, trivial⟩
    have hT : ∀ ys : List Nd, ((((σ.new (.box (encN n))).new (.box [.int .i64 0, .str ⟨#[]⟩, .str ⟨#[]⟩, .int .i64 0, .slice .nil 0 []])).new (.box [.int .i64 n.kind, .str ⟨#[]⟩, .str ⟨#[]⟩, .int .i64 0, .slice (.tok (σ.next + 3)) 5 (encNs ys)])).new (.tok 29 ys.length)).wf :=
      fun ys => (((hwf.box (encN_lt _ n)).box (cs := [.int .i64 0, .str ⟨#[]⟩, .str ⟨#[]⟩, .int .i64 0, .slice .nil 0 []]) ⟨trivial, trivial, trivial, trivial, ⟨trivial, trivial⟩, trivial⟩)).new2 (hkl2 ys) trivial
    refine hx_loop (S := RpS) (fun s => [(1, .int .i64 s.z), (2, .ptr σ.next 0), (4, .ptr (σ.next + 1) 0), (6, .ptr (σ.next + 2) 0), (7, .int .i64 s.j)])
      (fun s => ((((σ.new (.box (encN n))).new (.box [.int .i64 0, .str ⟨#[]⟩, .str ⟨#[]⟩, .int .i64 0, .slice .nil 0 []])).new (.box [.int .i64 n.kind, .str ⟨#[]⟩, .str ⟨#[]⟩, .int .i64 0, .slice (.tok (σ.next + 3)) 5 (encNs s.ys)])).new (.tok 29 s.ys.length)))
      (fun s => s.j ≤ n.kids.length ∧ s.ys.length = s.j ∧ rplNs n.kids z = ((rplNs (n.kids.drop s.j) s.z).1, s.ys ++ (rplNs (n.kids.drop s.j) s.z).2)) (fun s => n.kids.length - s.j) ⟨0, z, []⟩
      ⟨Nat.zero_le _, rfl, rfl⟩ (fun _ _ h => by rw [hr] at h; cases h) ?_ ?_
    · exact Drop.all hw hn1 ⟨⟨rfl, trivial⟩, ⟨rfl, show σ.next < σ.next + 4 by omega⟩, ⟨rfl, show σ.next + 1 < σ.next + 4 by omega⟩, ⟨rfl, show σ.next + 2 < σ.next + 4 by omega⟩, ⟨rfl, trivial⟩, trivial⟩
    rintro ⟨j, z1, ys⟩ ⟨j1, j2, j3⟩
    simp only at j1 j2 j3 ⊢
    have hjc : ((j : Int) < ((encNs n.kids).length : Int)) = (j < n.kids.length) := by rw [encNs_length]; simp
    by_cases hj : j < n.kids.length
    · have hjd : decide (((j : Nat) : Int) < ((encNs n.kids).length : Int)) = true := by simp [hjc, hj]
      have hget : (encNs n.kids).getD j [] = encN n.kids[j] := encNs_get hj
      have hjp : ((j : Int) < ((encNs n.kids).length : Int)) := by rw [encNs_length]; omega
      have hcm := cntN_mem (List.getElem_mem hj)
      have hwr : IntKind.i64.wrap ((j : Int) + 1) = ((j + 1 : Nat) : Int) := by rw [IntWalk.i64_in _ (by omega)]; rfl
      have hdrop : n.kids.drop j = n.kids[j] :: n.kids.drop (j + 1) := List.drop_eq_getElem_cons hj
      rw [hdrop] at j3
      simp only [rplNs] at j3
      refine hgo_sound 60 ?_
      simp -implicitDefEqProofs (maxSteps := 1000000) only [simpS, ↓condJ_true, ↓condJ_false, ↓reduceIte, Nat.reduceEqDiff, Nat.reduceLT, Nat.reduceLeDiff, reduceCtorEq, Nat.reduceAdd, Nat.reduceSub, Option.map_some, if_true, if_false, List.getD_cons_zero, List.getD_cons_succ, List.length_cons, List.length_nil, List.mem_cons, List.not_mem_nil, List.mem_append, List.nil_append, List.cons_append, List.append_nil, List.take_succ_cons, List.take_zero, List.drop_succ_cons, List.drop_zero, List.set_cons_zero, List.set_cons_succ, List.map_cons, List.map_nil, implies_true, forall_const, ne_eq, encN_kids, encN_length, encN_take, hjd, hjp, Int.toNat_natCast, Int.natCast_nonneg, hget]
      refine hx_call (f := .fn 29) rfl (by rw [hP]; exact hcallD_func (ih n.kids[j] (by omega) (by omega) z1 _)) ?_
      rintro _ σ2 ⟨rfl, h⟩
      subst σ2
      refine hgo_sound 90 ?_
      simp -implicitDefEqProofs (maxSteps := 1000000) only [simpS, ↓condJ_true, ↓condJ_false, ↓reduceIte, Nat.reduceEqDiff, Nat.reduceLT, Nat.reduceLeDiff, reduceCtorEq, Nat.reduceAdd, Nat.reduceSub, Option.map_some, if_true, if_false, List.getD_cons_zero, List.getD_cons_succ, List.length_cons, List.length_nil, List.mem_cons, List.not_mem_nil, List.mem_append, List.nil_append, List.cons_append, List.append_nil, List.take_succ_cons, List.take_zero, List.drop_succ_cons, List.drop_zero, List.set_cons_zero, List.set_cons_succ, List.map_cons, List.map_nil, implies_true, forall_const, ne_eq, encN_length, encN_take, hwr]
      have hen : encNs ys ++ [encN (rplN n.kids[j] z1).2] = encNs (ys ++ [(rplN n.kids[j] z1).2]) := by simp only [encNs_eq, List.map_append, List.map_cons, List.map_nil]
      have hln : ys.length + 1 = (ys ++ [(rplN n.kids[j] z1).2]).length := by simp
      refine ⟨⟨(encNs_length _).symm, by rw [encNs_length]; omega, by rw [encNs_length]; omega⟩, fun hw2 hl2 hn2 => ?_⟩
      refine ⟨⟨j + 1, (rplN n.kids[j] z1).1, ys ++ [(rplN n.kids[j] z1).2]⟩, ⟨by simp only; omega, by simp only [List.length_append, List.length_singleton]; omega, by rw [j3]; simp only [List.append_assoc, List.cons_append, List.nil_append]⟩, by simp only; omega, ?_⟩
      simp only [hen]
      rw [hln]
      exact Drop.allS (((Ext.refl _).new _).sub (hT _)) (hT _) hn1 ⟨⟨rfl, trivial⟩, ⟨rfl, show σ.next < σ.next + 4 by omega⟩, ⟨rfl, show σ.next + 1 < σ.next + 4 by omega⟩, ⟨rfl, show σ.next + 2 < σ.next + 4 by omega⟩, ⟨rfl, trivial⟩, trivial⟩
    · have hjd : decide (((j : Nat) : Int) < ((encNs n.kids).length : Int)) = false := by simp [hjc, hj]
      have hdrop : n.kids.drop j = [] := List.drop_eq_nil_of_le (by omega)
      rw [hdrop] at j3
      simp only [rplNs, List.append_nil] at j3
      rw [j3]
      refine hgo_sound 60 ?_
      simp -implicitDefEqProofs (maxSteps := 1000000) only [simpS, ↓condJ_true, ↓condJ_false, ↓reduceIte, Nat.reduceEqDiff, Nat.reduceLT, Nat.reduceLeDiff, reduceCtorEq, Nat.reduceAdd, Nat.reduceSub, Option.map_some, if_true, if_false, List.getD_cons_zero, List.getD_cons_succ, List.length_cons, List.length_nil, List.mem_cons, List.not_mem_nil, List.mem_append, List.nil_append, List.cons_append, List.append_nil, List.take_succ_cons, List.take_zero, List.drop_succ_cons, List.drop_zero, List.set_cons_zero, List.set_cons_succ, List.map_cons, List.map_nil, implies_true, forall_const, ne_eq, encN_kids, encN_length, hjd]
      exact fpost_strip (σ0 := σ) (ds := [.agg [.int .i64 n.kind, .str ⟨#[]⟩, .str ⟨#[]⟩, .int .i64 0, .slice (.tok (σ.next + 3)) 5 (encNs ys)], .int .i64 z1]) (d := .tuple [.agg (encN (.mk n.kind ⟨#[]⟩ ⟨#[]⟩ 0 ys)), .int .i64 z1]) (by simp only [tupD, frzD, frzL, if_true, encN]; exact Wk.refl _) (.inr rfl) (by rw [hnx]; exact Nat.le_refl _) hwf ((((((Ext.refl σ).new _).new _).new _).new _).sub hwf)
        (resD_cellS (ot := none) (t := 4) (id := σ.next + 1) (cs := [.int .i64 n.kind, .str ⟨#[]⟩, .str ⟨#[]⟩, .int .i64 0, .slice (.tok (σ.next + 3)) 5 (encNs ys)]) rfl (by simp -implicitDefEqProofs (maxSteps := 1000000) only [simpS, ↓condJ_true, ↓condJ_false, ↓reduceIte, Nat.reduceEqDiff, Nat.reduceLT, Nat.reduceLeDiff, reduceCtorEq, Nat.reduceAdd, Nat.reduceSub, Option.map_some, if_true, if_false, List.getD_cons_zero, List.getD_cons_succ, List.length_cons, List.length_nil, List.mem_cons, List.not_mem_nil, List.mem_append, List.nil_append, List.cons_append, List.append_nil, List.take_succ_cons, List.take_zero, List.drop_succ_cons, List.drop_zero, List.set_cons_zero, List.set_cons_succ, List.map_cons, List.map_nil, implies_true, forall_const, ne_eq]) rfl rfl) ⟨Nat.le_refl 5, trivial⟩ (by simp only [tupD, frzD, frzL, if_true]; exact ⟨⟨trivial, trivial, trivial, trivial, ⟨trivial, encNs_lt _ _⟩, trivial⟩, trivial, trivial⟩) ⟨rfl, rfl⟩

end Go.Hl
