/-
  tree.each.
-/
import Derived.Test.YtlaljehmcacmjaaTrK
set_option linter.unusedSectionVars false
set_option linter.unusedVariables false
set_option linter.unusedSimpArgs false
set_option maxRecDepth 100000
namespace Go.Hl
open Go Go.Proofs

theorem Sub.mixE {N : Nat} {A τ τ' : St} (hs : Sub τ τ') : Sub (mix N A τ) (mix N A τ') where
  next := hs.next
  obj := fun id o h => by
    simp only [mix_obj] at h ⊢
    split
    · rename_i q; rw [if_pos q] at h; exact h
    · rename_i q; rw [if_neg q] at h; exact hs.obj id o h
  glob := hs.glob

/-- The end of a function to which items are given, with rights to append given up. -/
theorem fpost_mixS {N n0 : Nat} {res : List HR} {e : Exit} {env : Env} {A B τ τ' : St} {v : D} {ds : List D} {p : Prop} (he : e = .normal ∨ e = .ret) (hn0 : n0 = τ.next) (hAB : A = B) (hwf : B.wf) (hn : B.next = N) (hτ : τ.wf) (hle : N ≤ τ.next) (hx : Ext τ τ')
    (hr : resD (mix N A τ') env res = some (ds, p)) (hp : p) (hv : frzD (fun _ => none) true (tupD ds) = v) (hlt : v.lt τ.next) :
    FPost n0 res (fun d σ' => d = v ∧ σ' = mix N B τ) e env (mix N A τ') := by
  subst hAB
  subst hv
  subst hn0
  exact ⟨he, fun _ _ _ => ⟨ds, p, fun _ => none, true, mix N A τ, hr, hp, (fun _ _ h => by cases h), hlt, Drop.mix hwf hτ (Nat.le_of_eq hn) hle hx, _, Wk.refl _, rfl, rfl⟩⟩

/-- A function value that changes nodes. -/
structure Chg (P : Program) (tk : Tk Nd) (f : tk.C → Nd → Nd) (y : D) : Prop where
  lt : y.lt tk.N
  call : ∀ (c : tk.C) (x : Nd) (τ : St), Low tk.N (tk.T c) τ → HCallD P y [.agg (encN x)] τ (fun d σ' => d = .agg (encN (f c x)) ∧ σ' = mix tk.N (tk.T (tk.step c x).1) τ)

mutual
def eachN (tk : Tk Nd) (f : tk.C → Nd → Nd) : Nd → tk.C → tk.C × Nd
  | .mk k g t a ks, c => if k = 1 then ((tk.step c (.mk k g t a ks)).1, f c (.mk k g t a ks)) else ((eachNs tk f ks c).1, .mk k g t a (eachNs tk f ks c).2)
def eachNs (tk : Tk Nd) (f : tk.C → Nd → Nd) : List Nd → tk.C → tk.C × List Nd
  | [], c => (c, [])
  | n :: ns, c => ((eachNs tk f ns (eachN tk f n c).1).1, (eachN tk f n c).2 :: (eachNs tk f ns (eachN tk f n c).1).2)
end

structure EcS (C : Type) where
  j : Nat
  c : C
  ys : List Nd

theorem each_calls (tk : Tk Nd) (f : tk.C → Nd → Nd) (y : D) (hy : Chg Try.prog tk f y) : ∀ (sz : Nat) (n : Nd), cntN n ≤ sz → sz ≤ 1099511627776 → ∀ (c : tk.C) (τ : St), Low tk.N (tk.T c) τ →
    HCalls Try.prog 45 [.agg (encN n), y] τ (fun d σ' => d = .agg (encN (eachN tk f n c).2) ∧ σ' = mix tk.N (tk.T (eachN tk f n c).1) τ) := by
  intro sz
  induction sz with
  | zero => intro n hn; have := cntN_pos n; omega
  | succ sz ih =>
  intro n hn hsz c τ hlow
  have hle : tk.N ≤ τ.next := hlow.next
  have hgl := hlow.glob
  refine hcalls_body (fn := Try.f45) rfl c45 (by simp [h45]) (by simp [h45, Try.f45]) ?_
  intro M hP hr hnt hnx hwf hlt
  have hks := cntN_kids n
  have hkl := kids_le n.kids
  have n1 : ¬ τ.next < tk.N := by omega
  have n2 : ¬ τ.next + 1 < tk.N := by omega
  have n3 : ¬ τ.next + 2 < tk.N := by omega
  have hylt : ∀ m, tk.N ≤ m → y.lt m := fun m h => D.lt_mono h _ hy.lt
  have hen : eachN tk f n c = if n.kind = 1 then ((tk.step c n).1, f c n) else ((eachNs tk f n.kids c).1, .mk n.kind n.gap n.text n.at_ (eachNs tk f n.kids c).2) := by cases n; rfl
  have hE := hlow.eq
  simp only [h45, argEnv]
  by_cases hk : n.kind = 1
  · have hkd : (n.kind == 1) = true := by simp [hk]
    rw [if_pos hk] at hen
    rw [hen]
    refine hgo_sound 40 ?_
    simp -implicitDefEqProofs (maxSteps := 1000000) only [simpS, ↓condJ_true, ↓condJ_false, ↓reduceIte, Nat.reduceEqDiff, Nat.reduceLT, Nat.reduceLeDiff, reduceCtorEq, Nat.reduceAdd, Nat.reduceSub, Option.map_some, if_true, if_false, List.getD_cons_zero, List.getD_cons_succ, List.length_cons, List.length_nil, List.mem_cons, List.not_mem_nil, List.mem_append, List.nil_append, List.cons_append, List.append_nil, List.take_succ_cons, List.take_zero, List.drop_succ_cons, List.drop_zero, List.set_cons_zero, List.set_cons_succ, List.map_cons, List.map_nil, implies_true, forall_const, ne_eq, encN_length, encN_kind, encN_take, hkd]
    refine hx_call rfl (by rw [hP]; exact hy.call c n _ ((hlow.new _).new _)) ?_
    rintro _ σ2 ⟨rfl, rfl⟩
    refine hgo_sound 40 ?_
    simp -implicitDefEqProofs (maxSteps := 1000000) only [simpS, ↓condJ_true, ↓condJ_false, ↓reduceIte, Nat.reduceEqDiff, Nat.reduceLT, Nat.reduceLeDiff, reduceCtorEq, Nat.reduceAdd, Nat.reduceSub, Option.map_some, if_true, if_false, List.getD_cons_zero, List.getD_cons_succ, List.length_cons, List.length_nil, List.mem_cons, List.not_mem_nil, List.mem_append, List.nil_append, List.cons_append, List.append_nil, List.take_succ_cons, List.take_zero, List.drop_succ_cons, List.drop_zero, List.set_cons_zero, List.set_cons_succ, List.map_cons, List.map_nil, implies_true, forall_const, ne_eq, encN_length, encN_take, hle, n1, n2, mix_put]
    exact fpost_mix (.inr rfl) hnx rfl (tk.wf _) (tk.next _) hwf hle (((Ext.refl τ).new _).new _) (ds := [.agg (encN (f c n))]) (resD_cellS (ot := none) (t := 4) (id := τ.next + 1) (cs := encN (f c n)) rfl (by simp -implicitDefEqProofs (maxSteps := 1000000) only [simpS, ↓condJ_true, ↓condJ_false, ↓reduceIte, Nat.reduceEqDiff, Nat.reduceLT, Nat.reduceLeDiff, reduceCtorEq, Nat.reduceAdd, Nat.reduceSub, Option.map_some, if_true, if_false, List.getD_cons_zero, List.getD_cons_succ, List.length_cons, List.length_nil, List.mem_cons, List.not_mem_nil, List.mem_append, List.nil_append, List.cons_append, List.append_nil, List.take_succ_cons, List.take_zero, List.drop_succ_cons, List.drop_zero, List.set_cons_zero, List.set_cons_succ, List.map_cons, List.map_nil, implies_true, forall_const, ne_eq, n2]) (encN_length _) resD_nil) ⟨by rw [encN_length]; exact Nat.le_refl _, trivial⟩ rfl (encN_lt _ _)
  · have hkd : (n.kind == 1) = false := by simp [hk]
    rw [if_neg hk] at hen
    rw [hen]
    rw [← hE]
    simp only [mix_mix]
    have g1 : tk.N ≤ τ.next + 1 := by omega
    have g2 : tk.N ≤ τ.next + 2 := by omega
    have g3 : tk.N ≤ τ.next + 3 := by omega
    refine hgo_sound 40 ?_
    simp -implicitDefEqProofs (maxSteps := 1000000) only [simpS, ↓condJ_true, ↓condJ_false, ↓reduceIte, Nat.reduceEqDiff, Nat.reduceLT, Nat.reduceLeDiff, reduceCtorEq, Nat.reduceAdd, Nat.reduceSub, Option.map_some, if_true, if_false, List.getD_cons_zero, List.getD_cons_succ, List.length_cons, List.length_nil, List.mem_cons, List.not_mem_nil, List.mem_append, List.nil_append, List.cons_append, List.append_nil, List.take_succ_cons, List.take_zero, List.drop_succ_cons, List.drop_zero, List.set_cons_zero, List.set_cons_succ, List.map_cons, List.map_nil, implies_true, forall_const, ne_eq, encN_length, encN_kind, encN_take, encN_kids, hkd, hle, n1, n2, g1, g2]
    refine hx_full (t := 5) 25 5 rfl ?_ (fun _ e => by cases e) (fun _ e => by cases e)
    simp -implicitDefEqProofs (maxSteps := 1000000) only [simpS, ↓condJ_true, ↓condJ_false, ↓reduceIte, Nat.reduceEqDiff, Nat.reduceLT, Nat.reduceLeDiff, reduceCtorEq, Nat.reduceAdd, Nat.reduceSub, Option.map_some, if_true, if_false, List.getD_cons_zero, List.getD_cons_succ, List.length_cons, List.length_nil, List.mem_cons, List.not_mem_nil, List.mem_append, List.nil_append, List.cons_append, List.append_nil, List.take_succ_cons, List.take_zero, List.drop_succ_cons, List.drop_zero, List.set_cons_zero, List.set_cons_succ, List.map_cons, List.map_nil, implies_true, forall_const, ne_eq, hle, g1, g2]
    refine hx_know_code fun hw hl hn1 => ?_
    have hXwf : ∀ ys : List Nd, (((τ.new (.box (encN n))).new (.box [.int .i64 0, .str ⟨#[]⟩, .str ⟨#[]⟩, .int .i64 0, .slice .nil 0 []])).new (.tok 25 ys.length)).wf :=
      fun ys => ((hwf.box (encN_lt _ n)).box (cs := [.int .i64 0, .str ⟨#[]⟩, .str ⟨#[]⟩, .int .i64 0, .slice .nil 0 []]) ⟨trivial, trivial, trivial, trivial, ⟨trivial, trivial⟩, trivial⟩).tok
    have hT : ∀ (c' : tk.C) (ys : List Nd), (mix tk.N (tk.T c') (((τ.new (.box (encN n))).new (.box [.int .i64 0, .str ⟨#[]⟩, .str ⟨#[]⟩, .int .i64 0, .slice .nil 0 []])).new (.tok 25 ys.length))).wf :=
      fun c' ys => (tk.wf c').mix (hXwf ys) (by rw [tk.next]; exact Nat.le_refl _) (show tk.N ≤ τ.next + 3 by omega)
    refine hx_loop (S := EcS tk.C) (fun s => [(1, y), (2, .ptr τ.next 0), (4, .ptr (τ.next + 1) 0), (5, .slice (.tok (τ.next + 2)) 5 (encNs s.ys)), (15, .slice .no 5 (encNs n.kids)), (16, .int .i64 ((encNs n.kids).length : Int)), (17, .int .i64 s.j)])
      (fun s => mix tk.N (tk.T s.c) (((τ.new (.box (encN n))).new (.box [.int .i64 0, .str ⟨#[]⟩, .str ⟨#[]⟩, .int .i64 0, .slice .nil 0 []])).new (.tok 25 s.ys.length)))
      (fun s => s.j ≤ n.kids.length ∧ s.ys.length = s.j ∧ eachNs tk f n.kids c = ((eachNs tk f (n.kids.drop s.j) s.c).1, s.ys ++ (eachNs tk f (n.kids.drop s.j) s.c).2)) (fun s => n.kids.length - s.j) ⟨0, c, []⟩
      ⟨Nat.zero_le _, rfl, rfl⟩ (fun _ _ h => by rw [hr] at h; cases h) ?_ ?_
    · exact Drop.all hw hn1 ⟨⟨rfl, hylt _ (show tk.N ≤ τ.next + 3 by omega)⟩, ⟨rfl, show τ.next < τ.next + 3 by omega⟩, ⟨rfl, show τ.next + 1 < τ.next + 3 by omega⟩, ⟨rfl, ⟨show τ.next + 2 < τ.next + 3 by omega, trivial⟩⟩, ⟨rfl, ⟨trivial, encNs_lt _ _⟩⟩, ⟨rfl, trivial⟩, ⟨rfl, trivial⟩, trivial⟩
    rintro ⟨j, c1, ys⟩ ⟨j1, j2, j3⟩
    simp only at j1 j2 j3 ⊢
    have hjc : ((j : Int) < ((encNs n.kids).length : Int)) = (j < n.kids.length) := by rw [encNs_length]; simp
    by_cases hj : j < n.kids.length
    · have hjd : decide (((j : Nat) : Int) < ((encNs n.kids).length : Int)) = true := by simp [hjc, hj]
      have hget : (encNs n.kids).getD j [] = encN n.kids[j] := encNs_get hj
      have hjp : ((j : Int) < ((encNs n.kids).length : Int)) := by rw [encNs_length]; omega
      have hdrop : n.kids.drop j = n.kids[j] :: n.kids.drop (j + 1) := List.drop_eq_getElem_cons hj
      rw [hdrop] at j3
      simp only [eachNs] at j3
      have hcm := cntN_mem (List.getElem_mem hj)
      have hwr : IntKind.i64.wrap ((j : Int) + 1) = ((j + 1 : Nat) : Int) := by rw [IntWalk.i64_in _ (by omega)]; rfl
      have n4 : ¬ τ.next + 3 < tk.N := by omega
      have hlowX : ∀ X : St, tk.N ≤ X.next → X.glob = τ.glob → Low tk.N (tk.T c1) (mix tk.N (tk.T c1) X) := fun X h1 h2 => Low.mix (B := X) h1 (by rw [h2, hgl]; exact tk.glob _ _)
      refine hgo_sound 60 ?_
      simp -implicitDefEqProofs (maxSteps := 1000000) only [simpS, ↓condJ_true, ↓condJ_false, ↓reduceIte, Nat.reduceEqDiff, Nat.reduceLT, Nat.reduceLeDiff, reduceCtorEq, Nat.reduceAdd, Nat.reduceSub, Option.map_some, if_true, if_false, List.getD_cons_zero, List.getD_cons_succ, List.length_cons, List.length_nil, List.mem_cons, List.not_mem_nil, List.mem_append, List.nil_append, List.cons_append, List.append_nil, List.take_succ_cons, List.take_zero, List.drop_succ_cons, List.drop_zero, List.set_cons_zero, List.set_cons_succ, List.map_cons, List.map_nil, implies_true, forall_const, ne_eq, hjd, hjp, Int.toNat_natCast, Int.natCast_nonneg, hget, encN_length, encN_take, hle, n1, n2, n3, n4, g1, g2, g3]
      refine hx_call (f := .fn 45) rfl (by rw [hP]; exact hcallD_func (ih n.kids[j] (by omega) (by omega) c1 _ (hlowX _ (by show tk.N ≤ τ.next + 4; omega) (by rfl)))) ?_
      rintro _ _ ⟨rfl, rfl⟩
      simp only [mix_mix]
      have hb1 : (ys.length + 1) * 72 ≤ 140737488355328 := by omega
      have hb2 : ys.length + 1 ≤ 9223372036854775807 := by omega
      refine hgo_sound 90 ?_
      simp -implicitDefEqProofs (maxSteps := 1000000) only [simpS, ↓condJ_true, ↓condJ_false, ↓reduceIte, Nat.reduceEqDiff, Nat.reduceLT, Nat.reduceLeDiff, reduceCtorEq, Nat.reduceAdd, Nat.reduceSub, Option.map_some, if_true, if_false, List.getD_cons_zero, List.getD_cons_succ, List.length_cons, List.length_nil, List.mem_cons, List.not_mem_nil, List.mem_append, List.nil_append, List.cons_append, List.append_nil, List.take_succ_cons, List.take_zero, List.drop_succ_cons, List.drop_zero, List.set_cons_zero, List.set_cons_succ, List.map_cons, List.map_nil, implies_true, forall_const, ne_eq, encN_length, encN_take, hwr, hle, n1, n2, n3, n4, g1, g2, g3]
      have hen2 : encNs ys ++ [encN (eachN tk f n.kids[j] c1).2] = encNs (ys ++ [(eachN tk f n.kids[j] c1).2]) := by simp only [encNs_eq, List.map_append, List.map_cons, List.map_nil]
      refine ⟨⟨(encNs_length _).symm, by rw [encNs_length]; exact hb1, by rw [encNs_length]; omega⟩, fun hw2 hl2 hn2 => ?_⟩
      refine ⟨⟨j + 1, (eachN tk f n.kids[j] c1).1, ys ++ [(eachN tk f n.kids[j] c1).2]⟩, ⟨by simp only; omega, by simp only [List.length_append, List.length_singleton]; omega, by rw [j3]; simp only [List.append_assoc, List.cons_append, List.nil_append]⟩, by simp only; omega, ?_⟩
      have hlen1 : ys.length + 1 = (ys ++ [(eachN tk f n.kids[j] c1).2]).length := by simp
      simp only [hen2]
      rw [hlen1]
      exact Drop.allS (Sub.mixE (((Ext.refl _).new _).sub (hXwf (ys ++ [(eachN tk f n.kids[j] c1).2])))) (hT _ _) (by rw [hnx]; show τ.next ≤ τ.next + 3; omega) ⟨⟨rfl, hylt _ (show tk.N ≤ τ.next + 3 by omega)⟩, ⟨rfl, show τ.next < τ.next + 3 by omega⟩, ⟨rfl, show τ.next + 1 < τ.next + 3 by omega⟩, ⟨rfl, ⟨show τ.next + 2 < τ.next + 3 by omega, encNs_lt _ _⟩⟩, ⟨rfl, ⟨trivial, encNs_lt _ _⟩⟩, ⟨rfl, trivial⟩, ⟨rfl, trivial⟩, trivial⟩
    · have hjd : decide (((j : Nat) : Int) < ((encNs n.kids).length : Int)) = false := by simp [hjc, hj]
      have hdrop : n.kids.drop j = [] := List.drop_eq_nil_of_le (by omega)
      rw [hdrop] at j3
      simp only [eachNs, List.append_nil] at j3
      rw [j3]
      have hkinds : encN n = [.int .i64 n.kind, .str n.gap, .str n.text, .int .i64 n.at_, .slice .no 5 (encNs n.kids)] := by cases n; simp only [encN]; rfl
      rw [hkinds]
      refine hgo_sound 60 ?_
      simp -implicitDefEqProofs (maxSteps := 1000000) only [simpS, ↓condJ_true, ↓condJ_false, ↓reduceIte, Nat.reduceEqDiff, Nat.reduceLT, Nat.reduceLeDiff, reduceCtorEq, Nat.reduceAdd, Nat.reduceSub, Option.map_some, if_true, if_false, List.getD_cons_zero, List.getD_cons_succ, List.length_cons, List.length_nil, List.mem_cons, List.not_mem_nil, List.mem_append, List.nil_append, List.cons_append, List.append_nil, List.take_succ_cons, List.take_zero, List.drop_succ_cons, List.drop_zero, List.set_cons_zero, List.set_cons_succ, List.map_cons, List.map_nil, implies_true, forall_const, ne_eq, hjd, hle, n1, n2, n3]
      exact fpost_mixS (.inr rfl) hnx rfl (tk.wf _) (tk.next _) hwf hle ((((Ext.refl τ).new _).new _).new _) (ds := [.agg [.int .i64 n.kind, .str n.gap, .str n.text, .int .i64 n.at_, .slice (.tok (τ.next + 2)) 5 (encNs ys)]]) (resD_cellS (ot := none) (t := 4) (id := τ.next + 1) (cs := [.int .i64 n.kind, .str n.gap, .str n.text, .int .i64 n.at_, .slice (.tok (τ.next + 2)) 5 (encNs ys)]) rfl (by simp -implicitDefEqProofs (maxSteps := 1000000) only [simpS, ↓condJ_true, ↓condJ_false, ↓reduceIte, Nat.reduceEqDiff, Nat.reduceLT, Nat.reduceLeDiff, reduceCtorEq, Nat.reduceAdd, Nat.reduceSub, Option.map_some, if_true, if_false, List.getD_cons_zero, List.getD_cons_succ, List.length_cons, List.length_nil, List.mem_cons, List.not_mem_nil, List.mem_append, List.nil_append, List.cons_append, List.append_nil, List.take_succ_cons, List.take_zero, List.drop_succ_cons, List.drop_zero, List.set_cons_zero, List.set_cons_succ, List.map_cons, List.map_nil, implies_true, forall_const, ne_eq, n2]) rfl resD_nil) ⟨Nat.le_refl 5, trivial⟩ (by simp only [tupD, frzD, frzL, if_true, encN]) (encN_lt _ _)

end Go.Hl
