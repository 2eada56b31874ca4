/-
  tree.Place, tree.Strip.
-/
import Derived.Test.YtlaljehmcacmjaaTrO
set_option linter.unusedSectionVars false
set_option linter.unusedVariables false
set_option linter.unusedSimpArgs false
set_option maxRecDepth 100000
namespace Go.Hl
open Go Go.Proofs

def zero5 : List D := [.int .i64 0, .str ⟨#[]⟩, .str ⟨#[]⟩, .int .i64 0, .slice .nil 0 []]
theorem zero5_lt (n : Nat) : ltL n zero5 := ⟨trivial, trivial, trivial, trivial, ⟨trivial, trivial⟩, trivial⟩

def plAt (z : Int) (x : Nd) : Int := IntKind.i64.wrap (z + x.gap.size)
def plNd (z : Int) : Nd → Nd
  | .mk k g t a ks => .mk k g t (plAt z (.mk k g t a ks)) ks
def plStep (z : Int) (x : Nd) : Int := IntKind.i64.wrap (plAt z x + x.text.size)

def placeS (σ : St) (n : Nd) (z : Int) : St := ((σ.new (.box (encN n))).new (.box [.int .i64 z])).new (.box [.int .i64 0, .str ⟨#[]⟩, .str ⟨#[]⟩, .int .i64 0, .slice .nil 0 []])

def placeTk (σ : St) (hw : σ.wf) (n : Nd) : Tk Nd where
  C := Int
  N := σ.next + 3
  T := placeS σ n
  ok _ _ := True
  step z x := (plStep z x, true)
  next _ := rfl
  glob _ _ := rfl
  wf z := ((hw.box (encN_lt _ n)).box (cs := [.int .i64 z]) ⟨trivial, trivial⟩).box (cs := zero5) (zero5_lt _)

theorem place_chg (σ : St) (hw : σ.wf) (n : Nd) : Chg Try.prog (placeTk σ hw n) plNd (.func 46 [.ptr (σ.next + 1) 0]) := by
  refine ⟨?_, ?_⟩
  · simp only [D.lt, ltL, placeTk]
    exact ⟨by omega, trivial⟩
  rintro z ⟨k, g, t, a, ks⟩ τ hlow
  rw [← hlow.eq]
  have hle : σ.next + 3 ≤ τ.next := hlow.next
  refine hcallD_func ?_
  refine hcalls_body (fn := Try.f46) rfl c46 (by simp [h46]) (by simp [h46, Try.f46]) ?_
  intro M hP hr hnt hnx hwf hlt
  rw [hlow.eq] at hwf
  simp only [h46, List.cons_append, List.nil_append, argEnv]
  have n1 : ¬ τ.next < σ.next + 3 := by omega
  have n2 : ¬ τ.next + 1 < σ.next + 3 := by omega
  have g1 : σ.next + 3 ≤ τ.next + 1 := by omega
  have hx : encN (.mk k g t a ks) = [.int .i64 k, .str g, .str t, .int .i64 a, .slice .no 5 (encNs ks)] := by simp only [encN]
  rw [hx]
  simp only [mix_mix] at hnx ⊢
  refine hgo_sound 60 ?_
  simp -implicitDefEqProofs (maxSteps := 1000000) only [simpS, ↓condJ_true, ↓condJ_false, ↓reduceIte, Nat.reduceEqDiff, Nat.reduceLT, Nat.reduceLeDiff, reduceCtorEq, Nat.reduceAdd, Nat.reduceSub, Option.map_some, if_true, if_false, List.getD_cons_zero, List.getD_cons_succ, List.length_cons, List.length_nil, List.mem_cons, List.not_mem_nil, List.mem_append, List.nil_append, List.cons_append, List.append_nil, List.take_succ_cons, List.take_zero, List.drop_succ_cons, List.drop_zero, List.set_cons_zero, List.set_cons_succ, List.map_cons, List.map_nil, implies_true, forall_const, ne_eq, placeTk, placeS, hle, n1, n2, g1]
  have hB := (placeTk σ hw n).wf (plStep z (.mk k g t a ks))
  exact fpost_mix (N := σ.next + 3) (B := placeS σ n (plStep z (.mk k g t a ks))) (.inr rfl) hnx rfl hB rfl hwf hle (((Ext.refl τ).new _).new _) (ds := [.agg (encN (plNd z (.mk k g t a ks)))])
    (resD_cellS (ot := none) (t := 3) (id := τ.next + 1) (cs := encN (plNd z (.mk k g t a ks))) rfl (by simp -implicitDefEqProofs (maxSteps := 1000000) only [simpS, ↓condJ_true, ↓condJ_false, ↓reduceIte, Nat.reduceEqDiff, Nat.reduceLT, Nat.reduceLeDiff, reduceCtorEq, Nat.reduceAdd, Nat.reduceSub, Option.map_some, if_true, if_false, List.getD_cons_zero, List.getD_cons_succ, List.length_cons, List.length_nil, List.mem_cons, List.not_mem_nil, List.mem_append, List.nil_append, List.cons_append, List.append_nil, List.take_succ_cons, List.take_zero, List.drop_succ_cons, List.drop_zero, List.set_cons_zero, List.set_cons_succ, List.map_cons, List.map_nil, implies_true, forall_const, ne_eq, n2, plNd, encN]; rfl) (encN_length _) resD_nil) ⟨by rw [encN_length]; exact Nat.le_refl _, trivial⟩ rfl (encN_lt _ _)

def nilNd : Nd := .mk 0 ⟨#[]⟩ ⟨#[]⟩ 0 []
theorem nil_wk : Wk (.agg [.int .i64 0, .str ⟨#[]⟩, .str ⟨#[]⟩, .int .i64 0, .slice .nil 0 []]) (.agg (encN nilNd)) := by
  simp only [nilNd, encN, encNs]
  exact Wk.agg (WkC.cons (Wk.refl _) (WkC.cons (Wk.refl _) (WkC.cons (Wk.refl _) (WkC.cons (Wk.refl _) (WkC.cons Wk.nil WkC.nil)))))

mutual
def plN : Nd → Int → Int × Nd
  | .mk k g t a ks, z => if k = 1 then (plStep z (.mk k g t a ks), plNd z (.mk k g t a ks)) else ((plNs ks z).1, .mk k g t a (plNs ks z).2)
def plNs : List Nd → Int → Int × List Nd
  | [], z => (z, [])
  | n :: ns, z => ((plNs ns (plN n z).1).1, (plN n z).2 :: (plNs ns (plN n z).1).2)
end

mutual
theorem each_plN (σ : St) (hw : σ.wf) (m : Nd) : ∀ (n : Nd) (z : Int), eachN (placeTk σ hw m) plNd n z = plN n z
  | .mk k g t a ks, z => by
    simp only [eachN, plN, each_plNs σ hw m ks z]
    rfl
theorem each_plNs (σ : St) (hw : σ.wf) (m : Nd) : ∀ (ns : List Nd) (z : Int), eachNs (placeTk σ hw m) plNd ns z = plNs ns z
  | [], z => rfl
  | n :: ns, z => by
    simp only [eachNs, plNs, each_plN σ hw m n z, each_plNs σ hw m ns]
    rfl
end

def placeN (n : Nd) (z : Int) : Nd := if rightN n = true ∧ 0 ≤ z ∧ z ≤ 2147483648 then (plN n z).2 else nilNd

theorem place_calls (n : Nd) (hn : cntN n ≤ 1099511627776) (z : Int) (σ : St) : HCalls Try.prog 24 [.agg (encN n), .int .i64 z] σ (fun d σ' => d = .agg (encN (placeN n z)) ∧ σ' = σ) := by
  refine hcalls_body (fn := Try.f24) rfl c24 (by simp [h24]) (by simp [h24, Try.f24]) ?_
  intro M hP hr hnt hnx hwf hlt
  simp only [h24, argEnv]
  have hsub : ∀ z', Ext σ (placeS σ n z') := fun z' => (((Ext.refl σ).new _).new _).new _
  have bad : ∀ (e : Env), ¬ (rightN n = true ∧ 0 ≤ z ∧ z ≤ 2147483648) → look e 4 = .ptr (σ.next + 2) 0 → FPost M.gS.next [HR.cell 4 (some 5)] (fun d σ' => d = .agg (encN (placeN n z)) ∧ σ' = σ) .ret e (placeS σ n z) := fun e hb h4 => by
    have hp : placeN n z = nilNd := if_neg hb
    rw [hp]
    exact fpost_wk (σ0 := σ) (ds := [.agg [.int .i64 0, .str ⟨#[]⟩, .str ⟨#[]⟩, .int .i64 0, .slice .nil 0 []]]) nil_wk (.inr rfl) (by rw [hnx]; exact Nat.le_refl _) hwf ((hsub z).sub hwf) (resD_cellS (ot := none) (t := 4) (id := σ.next + 2) (cs := [.int .i64 0, .str ⟨#[]⟩, .str ⟨#[]⟩, .int .i64 0, .slice .nil 0 []]) h4 (by simp only [placeS, simpS, ↓condJ_true, ↓condJ_false, ↓reduceIte, Nat.reduceEqDiff, Nat.reduceLT, Nat.reduceLeDiff, reduceCtorEq, Nat.reduceAdd, Nat.reduceSub, Option.map_some, if_true, if_false, List.getD_cons_zero, List.getD_cons_succ, List.length_cons, List.length_nil, List.mem_cons, List.not_mem_nil, List.mem_append, List.nil_append, List.cons_append, List.append_nil, List.take_succ_cons, List.take_zero, List.drop_succ_cons, List.drop_zero, List.set_cons_zero, List.set_cons_succ, List.map_cons, List.map_nil, implies_true, forall_const, ne_eq]) rfl resD_nil) ⟨Nat.le_refl 5, trivial⟩ (zero5_lt _) ⟨rfl, rfl⟩
  refine hgo_sound 40 ?_
  simp -implicitDefEqProofs (maxSteps := 1000000) only [simpS, ↓condJ_true, ↓condJ_false, ↓reduceIte, Nat.reduceEqDiff, Nat.reduceLT, Nat.reduceLeDiff, reduceCtorEq, Nat.reduceAdd, Nat.reduceSub, Option.map_some, if_true, if_false, List.getD_cons_zero, List.getD_cons_succ, List.length_cons, List.length_nil, List.mem_cons, List.not_mem_nil, List.mem_append, List.nil_append, List.cons_append, List.append_nil, List.take_succ_cons, List.take_zero, List.drop_succ_cons, List.drop_zero, List.set_cons_zero, List.set_cons_succ, List.map_cons, List.map_nil, implies_true, forall_const, ne_eq, encN_length, encN_take]
  refine hx_call (f := .fn 11) rfl (by rw [hP]; exact hcallD_func (right_calls n hn _)) ?_
  rintro _ σ2 ⟨rfl, h⟩
  subst σ2
  cases hrn : rightN n
  · refine hgo_sound 40 ?_
    simp -implicitDefEqProofs (maxSteps := 1000000) only [simpS, ↓condJ_true, ↓condJ_false, ↓reduceIte, Nat.reduceEqDiff, Nat.reduceLT, Nat.reduceLeDiff, reduceCtorEq, Nat.reduceAdd, Nat.reduceSub, Option.map_some, if_true, if_false, List.getD_cons_zero, List.getD_cons_succ, List.length_cons, List.length_nil, List.mem_cons, List.not_mem_nil, List.mem_append, List.nil_append, List.cons_append, List.append_nil, List.take_succ_cons, List.take_zero, List.drop_succ_cons, List.drop_zero, List.set_cons_zero, List.set_cons_succ, List.map_cons, List.map_nil, implies_true, forall_const, ne_eq, encN_length, encN_take]
    exact bad _ (by rw [hrn]; simp) rfl
  · by_cases h0 : z < 0
    · have d0 : decide (z < 0) = true := by simp [h0]
      refine hgo_sound 40 ?_
      simp -implicitDefEqProofs (maxSteps := 1000000) only [simpS, ↓condJ_true, ↓condJ_false, ↓reduceIte, Nat.reduceEqDiff, Nat.reduceLT, Nat.reduceLeDiff, reduceCtorEq, Nat.reduceAdd, Nat.reduceSub, Option.map_some, if_true, if_false, List.getD_cons_zero, List.getD_cons_succ, List.length_cons, List.length_nil, List.mem_cons, List.not_mem_nil, List.mem_append, List.nil_append, List.cons_append, List.append_nil, List.take_succ_cons, List.take_zero, List.drop_succ_cons, List.drop_zero, List.set_cons_zero, List.set_cons_succ, List.map_cons, List.map_nil, implies_true, forall_const, ne_eq, encN_length, encN_take, d0]
      exact bad _ (by omega) rfl
    · have d0 : decide (z < 0) = false := by simp [h0]
      by_cases h1 : z > 2147483648
      · have d1 : decide (z > 2147483648) = true := by simp [h1]
        refine hgo_sound 40 ?_
        simp -implicitDefEqProofs (maxSteps := 1000000) only [simpS, ↓condJ_true, ↓condJ_false, ↓reduceIte, Nat.reduceEqDiff, Nat.reduceLT, Nat.reduceLeDiff, reduceCtorEq, Nat.reduceAdd, Nat.reduceSub, Option.map_some, if_true, if_false, List.getD_cons_zero, List.getD_cons_succ, List.length_cons, List.length_nil, List.mem_cons, List.not_mem_nil, List.mem_append, List.nil_append, List.cons_append, List.append_nil, List.take_succ_cons, List.take_zero, List.drop_succ_cons, List.drop_zero, List.set_cons_zero, List.set_cons_succ, List.map_cons, List.map_nil, implies_true, forall_const, ne_eq, encN_length, encN_take, d0, d1]
        exact bad _ (by omega) rfl
      · have d1 : decide (z > 2147483648) = false := by simp; omega
        have hp : placeN n z = (plN n z).2 := if_pos ⟨hrn, by omega, by omega⟩
        rw [hp]
        refine hgo_sound 40 ?_
        simp -implicitDefEqProofs (maxSteps := 1000000) only [simpS, ↓condJ_true, ↓condJ_false, ↓reduceIte, Nat.reduceEqDiff, Nat.reduceLT, Nat.reduceLeDiff, reduceCtorEq, Nat.reduceAdd, Nat.reduceSub, Option.map_some, if_true, if_false, List.getD_cons_zero, List.getD_cons_succ, List.length_cons, List.length_nil, List.mem_cons, List.not_mem_nil, List.mem_append, List.nil_append, List.cons_append, List.append_nil, List.take_succ_cons, List.take_zero, List.drop_succ_cons, List.drop_zero, List.set_cons_zero, List.set_cons_succ, List.map_cons, List.map_nil, implies_true, forall_const, ne_eq, encN_length, encN_take, d0, d1]
        refine hx_call (f := .fn 45) rfl (by rw [hP]; exact hcallD_func (each_calls (placeTk σ hwf n) plNd _ (place_chg σ hwf n) _ n (Nat.le_refl _) hn z (placeS σ n z) (Low.refl rfl))) ?_
        rintro _ σ2 ⟨rfl, rfl⟩
        rw [each_plN]
        have hmx : mix (placeTk σ hwf n).N ((placeTk σ hwf n).T (plN n z).1) (placeS σ n z) = placeS σ n (plN n z).1 := mix_up ((placeTk σ hwf n).wf _) ((placeTk σ hwf n).wf z) rfl rfl rfl
        rw [hmx]
        refine hgo_sound 40 ?_
        simp only [placeS, simpS, ↓condJ_true, ↓condJ_false, ↓reduceIte, Nat.reduceEqDiff, Nat.reduceLT, Nat.reduceLeDiff, reduceCtorEq, Nat.reduceAdd, Nat.reduceSub, Option.map_some, if_true, if_false, List.getD_cons_zero, List.getD_cons_succ, List.length_cons, List.length_nil, List.mem_cons, List.not_mem_nil, List.mem_append, List.nil_append, List.cons_append, List.append_nil, List.take_succ_cons, List.take_zero, List.drop_succ_cons, List.drop_zero, List.set_cons_zero, List.set_cons_succ, List.map_cons, List.map_nil, implies_true, forall_const, ne_eq, encN_length, encN_take]
        exact fpost_pure (σ0 := σ) (.inr rfl) (by rw [hnx]; exact Nat.le_refl _) hwf (((((Ext.refl σ).new _).new _).new _).sub hwf) (ds := [.agg (encN (plN n z).2)]) (resD_cellS (ot := none) (t := 4) (id := σ.next + 2) (cs := encN (plN n z).2) rfl (by simp -implicitDefEqProofs (maxSteps := 1000000) only [simpS, ↓condJ_true, ↓condJ_false, ↓reduceIte, Nat.reduceEqDiff, Nat.reduceLT, Nat.reduceLeDiff, reduceCtorEq, Nat.reduceAdd, Nat.reduceSub, Option.map_some, if_true, if_false, List.getD_cons_zero, List.getD_cons_succ, List.length_cons, List.length_nil, List.mem_cons, List.not_mem_nil, List.mem_append, List.nil_append, List.cons_append, List.append_nil, List.take_succ_cons, List.take_zero, List.drop_succ_cons, List.drop_zero, List.set_cons_zero, List.set_cons_succ, List.map_cons, List.map_nil, implies_true, forall_const, ne_eq]) (encN_length _) resD_nil) ⟨by rw [encN_length]; exact Nat.le_refl _, trivial⟩ (encN_lt _ _) ⟨rfl, rfl⟩

/-! ### Strip -/

def stNd : Nd → Nd
  | .mk k g t a ks => .mk 1 ⟨#[]⟩ t 0 []

def stripS (σ : St) (n : Nd) : St := (σ.new (.box (encN n))).new (.box [.int .i64 0, .str ⟨#[]⟩, .str ⟨#[]⟩, .int .i64 0, .slice .nil 0 []])

def stripTk (σ : St) (hw : σ.wf) (n : Nd) : Tk Nd where
  C := Unit
  N := σ.next + 2
  T _ := stripS σ n
  ok _ _ := True
  step _ x := ((), true)
  next _ := rfl
  glob _ _ := rfl
  wf _ := (hw.box (encN_lt _ n)).box (cs := zero5) (zero5_lt _)

theorem strip_chg (σ : St) (hw : σ.wf) (n : Nd) : Chg Try.prog (stripTk σ hw n) (fun _ => stNd) (.func 47 []) := by
  refine ⟨trivial, ?_⟩
  rintro u ⟨k, g, t, a, ks⟩ τ hlow
  rw [← hlow.eq]
  have hle : σ.next + 2 ≤ τ.next := hlow.next
  refine hcallD_func ?_
  refine hcalls_body (fn := Try.f47) rfl c47 (by simp [h47]) (by simp [h47, Try.f47]) ?_
  intro M hP hr hnt hnx hwf hlt
  rw [hlow.eq] at hwf
  simp only [h47, List.cons_append, List.nil_append, argEnv]
  have n1 : ¬ τ.next < σ.next + 2 := by omega
  have n2 : ¬ τ.next + 1 < σ.next + 2 := by omega
  have g1 : σ.next + 2 ≤ τ.next + 1 := by omega
  have hx : encN (.mk k g t a ks) = [.int .i64 k, .str g, .str t, .int .i64 a, .slice .no 5 (encNs ks)] := by simp only [encN]
  rw [hx]
  simp only [mix_mix] at hnx ⊢
  refine hgo_sound 60 ?_
  simp -implicitDefEqProofs (maxSteps := 1000000) only [simpS, ↓condJ_true, ↓condJ_false, ↓reduceIte, Nat.reduceEqDiff, Nat.reduceLT, Nat.reduceLeDiff, reduceCtorEq, Nat.reduceAdd, Nat.reduceSub, Option.map_some, if_true, if_false, List.getD_cons_zero, List.getD_cons_succ, List.length_cons, List.length_nil, List.mem_cons, List.not_mem_nil, List.mem_append, List.nil_append, List.cons_append, List.append_nil, List.take_succ_cons, List.take_zero, List.drop_succ_cons, List.drop_zero, List.set_cons_zero, List.set_cons_succ, List.map_cons, List.map_nil, implies_true, forall_const, ne_eq, stripTk, stripS, hle, n1, n2, g1]
  refine hx_call (f := .fn 31) rfl (by rw [hP]; exact hcallD_func (token_calls _ _ _ _)) ?_
  rintro _ σ2 ⟨rfl, h⟩
  subst σ2
  refine hgo_sound 60 ?_
  simp -implicitDefEqProofs (maxSteps := 1000000) only [simpS, ↓condJ_true, ↓condJ_false, ↓reduceIte, Nat.reduceEqDiff, Nat.reduceLT, Nat.reduceLeDiff, reduceCtorEq, Nat.reduceAdd, Nat.reduceSub, Option.map_some, if_true, if_false, List.getD_cons_zero, List.getD_cons_succ, List.length_cons, List.length_nil, List.mem_cons, List.not_mem_nil, List.mem_append, List.nil_append, List.cons_append, List.append_nil, List.take_succ_cons, List.take_zero, List.drop_succ_cons, List.drop_zero, List.set_cons_zero, List.set_cons_succ, List.map_cons, List.map_nil, implies_true, forall_const, ne_eq, encN_length, encN_take, hle, n1, n2, g1]
  have hB := (stripTk σ hw n).wf ()
  exact fpost_mix (N := σ.next + 2) (B := stripS σ n) (.inr rfl) hnx rfl hB rfl hwf hle (((Ext.refl τ).new _).new _) (ds := [.agg (encN (.mk 1 ⟨#[]⟩ t 0 []))])
    (resD_cellS (ot := none) (t := 2) (id := τ.next + 1) (cs := encN (.mk 1 ⟨#[]⟩ t 0 [])) rfl (by simp -implicitDefEqProofs (maxSteps := 1000000) only [simpS, ↓condJ_true, ↓condJ_false, ↓reduceIte, Nat.reduceEqDiff, Nat.reduceLT, Nat.reduceLeDiff, reduceCtorEq, Nat.reduceAdd, Nat.reduceSub, Option.map_some, if_true, if_false, List.getD_cons_zero, List.getD_cons_succ, List.length_cons, List.length_nil, List.mem_cons, List.not_mem_nil, List.mem_append, List.nil_append, List.cons_append, List.append_nil, List.take_succ_cons, List.take_zero, List.drop_succ_cons, List.drop_zero, List.set_cons_zero, List.set_cons_succ, List.map_cons, List.map_nil, implies_true, forall_const, ne_eq, n2]) (encN_length _) resD_nil) ⟨by rw [encN_length]; exact Nat.le_refl _, trivial⟩ rfl (encN_lt _ _)

mutual
def stN : Nd → Nd
  | .mk k g t a ks => if k = 1 then stNd (.mk k g t a ks) else .mk k g t a (stNs ks)
def stNs : List Nd → List Nd
  | [] => []
  | n :: ns => stN n :: stNs ns
end

mutual
theorem each_stN (σ : St) (hw : σ.wf) (m : Nd) : ∀ (n : Nd), eachN (stripTk σ hw m) (fun _ => stNd) n () = ((), stN n)
  | .mk k g t a ks => by
    simp only [eachN, stN, each_stNs σ hw m ks]
    split <;> rfl
theorem each_stNs (σ : St) (hw : σ.wf) (m : Nd) : ∀ (ns : List Nd), eachNs (stripTk σ hw m) (fun _ => stNd) ns () = ((), stNs ns)
  | [] => rfl
  | n :: ns => by
    simp only [eachNs, stNs, each_stN σ hw m n, each_stNs σ hw m ns]
    rfl
end

def stripN (n : Nd) : Nd := if rightN n = true then stN n else nilNd

theorem strip_calls (n : Nd) (hn : cntN n ≤ 1099511627776) (σ : St) : HCalls Try.prog 25 [.agg (encN n)] σ (fun d σ' => d = .agg (encN (stripN n)) ∧ σ' = σ) := by
  refine hcalls_body (fn := Try.f25) rfl c25 (by simp [h25]) (by simp [h25, Try.f25]) ?_
  intro M hP hr hnt hnx hwf hlt
  simp only [h25, argEnv]
  have hsub : Ext σ (stripS σ n) := ((Ext.refl σ).new _).new _
  refine hgo_sound 40 ?_
  simp -implicitDefEqProofs (maxSteps := 1000000) only [simpS, ↓condJ_true, ↓condJ_false, ↓reduceIte, Nat.reduceEqDiff, Nat.reduceLT, Nat.reduceLeDiff, reduceCtorEq, Nat.reduceAdd, Nat.reduceSub, Option.map_some, if_true, if_false, List.getD_cons_zero, List.getD_cons_succ, List.length_cons, List.length_nil, List.mem_cons, List.not_mem_nil, List.mem_append, List.nil_append, List.cons_append, List.append_nil, List.take_succ_cons, List.take_zero, List.drop_succ_cons, List.drop_zero, List.set_cons_zero, List.set_cons_succ, List.map_cons, List.map_nil, implies_true, forall_const, ne_eq, encN_length, encN_take]
  refine hx_call (f := .fn 11) rfl (by rw [hP]; exact hcallD_func (right_calls n hn _)) ?_
  rintro _ σ2 ⟨rfl, h⟩
  subst σ2
  cases hrn : rightN n
  · have hp : stripN n = nilNd := by simp [stripN, hrn]
    rw [hp]
    refine hgo_sound 40 ?_
    simp -implicitDefEqProofs (maxSteps := 1000000) only [simpS, ↓condJ_true, ↓condJ_false, ↓reduceIte, Nat.reduceEqDiff, Nat.reduceLT, Nat.reduceLeDiff, reduceCtorEq, Nat.reduceAdd, Nat.reduceSub, Option.map_some, if_true, if_false, List.getD_cons_zero, List.getD_cons_succ, List.length_cons, List.length_nil, List.mem_cons, List.not_mem_nil, List.mem_append, List.nil_append, List.cons_append, List.append_nil, List.take_succ_cons, List.take_zero, List.drop_succ_cons, List.drop_zero, List.set_cons_zero, List.set_cons_succ, List.map_cons, List.map_nil, implies_true, forall_const, ne_eq, encN_length, encN_take]
    exact fpost_wk (σ0 := σ) (ds := [.agg [.int .i64 0, .str ⟨#[]⟩, .str ⟨#[]⟩, .int .i64 0, .slice .nil 0 []]]) nil_wk (.inr rfl) (by rw [hnx]; exact Nat.le_refl _) hwf (hsub.sub hwf) (resD_cellS (ot := none) (t := 2) (id := σ.next + 1) (cs := [.int .i64 0, .str ⟨#[]⟩, .str ⟨#[]⟩, .int .i64 0, .slice .nil 0 []]) rfl (by simp -implicitDefEqProofs (maxSteps := 1000000) only [simpS, ↓condJ_true, ↓condJ_false, ↓reduceIte, Nat.reduceEqDiff, Nat.reduceLT, Nat.reduceLeDiff, reduceCtorEq, Nat.reduceAdd, Nat.reduceSub, Option.map_some, if_true, if_false, List.getD_cons_zero, List.getD_cons_succ, List.length_cons, List.length_nil, List.mem_cons, List.not_mem_nil, List.mem_append, List.nil_append, List.cons_append, List.append_nil, List.take_succ_cons, List.take_zero, List.drop_succ_cons, List.drop_zero, List.set_cons_zero, List.set_cons_succ, List.map_cons, List.map_nil, implies_true, forall_const, ne_eq]) rfl resD_nil) ⟨Nat.le_refl 5, trivial⟩ (zero5_lt _) ⟨rfl, rfl⟩
  · have hp : stripN n = stN n := by simp [stripN, hrn]
    rw [hp]
    refine hgo_sound 40 ?_
    simp -implicitDefEqProofs (maxSteps := 1000000) only [simpS, ↓condJ_true, ↓condJ_false, ↓reduceIte, Nat.reduceEqDiff, Nat.reduceLT, Nat.reduceLeDiff, reduceCtorEq, Nat.reduceAdd, Nat.reduceSub, Option.map_some, if_true, if_false, List.getD_cons_zero, List.getD_cons_succ, List.length_cons, List.length_nil, List.mem_cons, List.not_mem_nil, List.mem_append, List.nil_append, List.cons_append, List.append_nil, List.take_succ_cons, List.take_zero, List.drop_succ_cons, List.drop_zero, List.set_cons_zero, List.set_cons_succ, List.map_cons, List.map_nil, implies_true, forall_const, ne_eq, encN_length, encN_take]
    refine hx_call (f := .fn 45) rfl (by rw [hP]; exact hcallD_func (each_calls (stripTk σ hwf n) (fun _ => stNd) _ (strip_chg σ hwf n) _ n (Nat.le_refl _) hn () (stripS σ n) (Low.refl rfl))) ?_
    rintro _ σ2 ⟨rfl, rfl⟩
    rw [each_stN]
    have hmx : mix (stripTk σ hwf n).N ((stripTk σ hwf n).T ()) (stripS σ n) = stripS σ n := mix_up ((stripTk σ hwf n).wf _) ((stripTk σ hwf n).wf ()) rfl rfl rfl
    rw [hmx]
    refine hgo_sound 40 ?_
    simp only [stripS, simpS, ↓condJ_true, ↓condJ_false, ↓reduceIte, Nat.reduceEqDiff, Nat.reduceLT, Nat.reduceLeDiff, reduceCtorEq, Nat.reduceAdd, Nat.reduceSub, Option.map_some, if_true, if_false, List.getD_cons_zero, List.getD_cons_succ, List.length_cons, List.length_nil, List.mem_cons, List.not_mem_nil, List.mem_append, List.nil_append, List.cons_append, List.append_nil, List.take_succ_cons, List.take_zero, List.drop_succ_cons, List.drop_zero, List.set_cons_zero, List.set_cons_succ, List.map_cons, List.map_nil, implies_true, forall_const, ne_eq, encN_length, encN_take]
    exact fpost_pure (σ0 := σ) (.inr rfl) (by rw [hnx]; exact Nat.le_refl _) hwf ((((Ext.refl σ).new _).new _).sub hwf) (ds := [.agg (encN (stN n))]) (resD_cellS (ot := none) (t := 2) (id := σ.next + 1) (cs := encN (stN n)) rfl (by simp -implicitDefEqProofs (maxSteps := 1000000) only [simpS, ↓condJ_true, ↓condJ_false, ↓reduceIte, Nat.reduceEqDiff, Nat.reduceLT, Nat.reduceLeDiff, reduceCtorEq, Nat.reduceAdd, Nat.reduceSub, Option.map_some, if_true, if_false, List.getD_cons_zero, List.getD_cons_succ, List.length_cons, List.length_nil, List.mem_cons, List.not_mem_nil, List.mem_append, List.nil_append, List.cons_append, List.append_nil, List.take_succ_cons, List.take_zero, List.drop_succ_cons, List.drop_zero, List.set_cons_zero, List.set_cons_succ, List.map_cons, List.map_nil, implies_true, forall_const, ne_eq]) (encN_length _) resD_nil) ⟨by rw [encN_length]; exact Nat.le_refl _, trivial⟩ (encN_lt _ _) ⟨rfl, rfl⟩

end Go.Hl
