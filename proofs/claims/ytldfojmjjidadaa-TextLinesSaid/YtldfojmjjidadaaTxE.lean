/-
  Layer 1: a Table's words.
-/
import Derived.Test.YtldfojmjjidadaaTxD
set_option linter.unusedSectionVars false
set_option linter.unusedVariables false
set_option linter.unusedSimpArgs false
set_option maxRecDepth 100000
namespace Go.Hl
open Go Go.Proofs Go.RowKit

/-! ### slices.BinarySearch, at integers -/

theorem cisNaN_calls (x : Int) (σ : St) : HCalls Try.prog 36 [.int .i64 x] σ (fun d σ' => d = .bool false ∧ σ' = σ) := by
  refine hcalls_body (fn := Try.f36) rfl c36 (by simp [h36]) (by simp [h36, Try.f36]) ?_
  intro M hP hr hnt hnx hwf hlt
  simp only [h36, argEnv]
  have h : (x != x) = false := by simp
  refine hgo_sound 60 ?_
  simp -implicitDefEqProofs (maxSteps := 1000000) only [simpS, ↓condJ_true, ↓condJ_false, ↓reduceIte, Nat.reduceEqDiff, Nat.reduceLT, Nat.reduceLeDiff, reduceCtorEq, Nat.reduceAdd, Nat.reduceSub, bindG_none, addG_none, hgrpK_none, nestK_none, hgrpK_guarded, Option.map_none, beq_self_eq_true, bne_self_eq_false, Option.map_some, if_true, if_false, List.getD_cons_zero, List.getD_cons_succ, List.length_cons, List.length_nil, List.mem_cons, List.not_mem_nil, List.mem_append, List.nil_append, List.cons_append, List.append_nil, List.take_succ_cons, List.take_zero, List.drop_succ_cons, List.drop_zero, List.set_cons_zero, List.set_cons_succ, List.map_cons, List.map_nil, implies_true, forall_const, ne_eq, h]
  exact fpost_pure (σ0 := σ) (.inr rfl) (by rw [hnx]; exact Nat.le_refl _) hwf (Sub.refl σ) rfl trivial trivial ⟨rfl, rfl⟩

theorem isNaN_calls (x : Int) (σ : St) : HCalls Try.prog 31 [.int .i64 x] σ (fun d σ' => d = .bool false ∧ σ' = σ) := by
  refine hcalls_body (fn := Try.f31) rfl c31 (by simp [h31]) (by simp [h31, Try.f31]) ?_
  intro M hP hr hnt hnx hwf hlt
  simp only [h31, argEnv]
  have h : (x != x) = false := by simp
  refine hgo_sound 60 ?_
  simp -implicitDefEqProofs (maxSteps := 1000000) only [simpS, ↓condJ_true, ↓condJ_false, ↓reduceIte, Nat.reduceEqDiff, Nat.reduceLT, Nat.reduceLeDiff, reduceCtorEq, Nat.reduceAdd, Nat.reduceSub, bindG_none, addG_none, hgrpK_none, nestK_none, hgrpK_guarded, Option.map_none, beq_self_eq_true, bne_self_eq_false, Option.map_some, if_true, if_false, List.getD_cons_zero, List.getD_cons_succ, List.length_cons, List.length_nil, List.mem_cons, List.not_mem_nil, List.mem_append, List.nil_append, List.cons_append, List.append_nil, List.take_succ_cons, List.take_zero, List.drop_succ_cons, List.drop_zero, List.set_cons_zero, List.set_cons_succ, List.map_cons, List.map_nil, implies_true, forall_const, ne_eq, h]
  exact fpost_pure (σ0 := σ) (.inr rfl) (by rw [hnx]; exact Nat.le_refl _) hwf (Sub.refl σ) rfl trivial trivial ⟨rfl, rfl⟩

theorem less_calls (x y : Int) (σ : St) : HCalls Try.prog 30 [.int .i64 x, .int .i64 y] σ (fun d σ' => d = .bool (decide (x < y)) ∧ σ' = σ) := by
  refine hcalls_body (fn := Try.f30) rfl c30 (by simp [h30]) (by simp [h30, Try.f30]) ?_
  intro M hP hr hnt hnx hwf hlt
  simp only [h30, argEnv]
  refine hgo_sound 60 ?_
  simp -implicitDefEqProofs (maxSteps := 1000000) only [simpS, ↓condJ_true, ↓condJ_false, ↓reduceIte, Nat.reduceEqDiff, Nat.reduceLT, Nat.reduceLeDiff, reduceCtorEq, Nat.reduceAdd, Nat.reduceSub, bindG_none, addG_none, hgrpK_none, nestK_none, hgrpK_guarded, Option.map_none, beq_self_eq_true, bne_self_eq_false, Option.map_some, if_true, if_false, List.getD_cons_zero, List.getD_cons_succ, List.length_cons, List.length_nil, List.mem_cons, List.not_mem_nil, List.mem_append, List.nil_append, List.cons_append, List.append_nil, List.take_succ_cons, List.take_zero, List.drop_succ_cons, List.drop_zero, List.set_cons_zero, List.set_cons_succ, List.map_cons, List.map_nil, implies_true, forall_const, ne_eq]
  refine hx_call (f := .fn 36) rfl (by rw [hP]; exact hcallD_func (cisNaN_calls x _)) ?_
  rintro _ σ2 ⟨rfl, h⟩
  subst σ2
  refine hgo_sound 60 ?_
  simp -implicitDefEqProofs (maxSteps := 1000000) only [simpS, ↓condJ_true, ↓condJ_false, ↓reduceIte, Nat.reduceEqDiff, Nat.reduceLT, Nat.reduceLeDiff, reduceCtorEq, Nat.reduceAdd, Nat.reduceSub, bindG_none, addG_none, hgrpK_none, nestK_none, hgrpK_guarded, Option.map_none, beq_self_eq_true, bne_self_eq_false, Option.map_some, if_true, if_false, List.getD_cons_zero, List.getD_cons_succ, List.length_cons, List.length_nil, List.mem_cons, List.not_mem_nil, List.mem_append, List.nil_append, List.cons_append, List.append_nil, List.take_succ_cons, List.take_zero, List.drop_succ_cons, List.drop_zero, List.set_cons_zero, List.set_cons_succ, List.map_cons, List.map_nil, implies_true, forall_const, ne_eq]
  exact fpost_pure (σ0 := σ) (.inr rfl) (by rw [hnx]; exact Nat.le_refl _) hwf (Sub.refl σ) rfl trivial trivial ⟨rfl, rfl⟩

structure BsOk (l : List Nat) (z : Int) (i : Nat) (f : Bool) : Prop where
  le : i ≤ l.length
  lo : ∀ q, q < i → ∀ (h : q < l.length), (l[q] : Int) < z
  hi : ∀ q, i ≤ q → ∀ (h : q < l.length), z ≤ (l[q] : Int)
  at_ : f = true ↔ ∃ h : i < l.length, (l[i] : Int) = z

def StrictL (l : List Nat) : Prop := ∀ (p q : Nat) (hp : p < l.length) (hq : q < l.length), p < q → l[p] < l[q]

structure BsS where
  i : Nat
  j : Nat

theorem binSearch_calls (l : List Nat) (hl : l.length ≤ 1099511627777) (hsl : StrictL l) (z : Int) (σ : St) : HCalls Try.prog 24 [.slice .no 1 (encB l), .int .i64 z] σ (fun d σ' => ∃ (i : Nat) (f : Bool), d = .tuple [.int .i64 (i : Int), .bool f] ∧ BsOk l z i f ∧ σ' = σ) := by
  refine hcalls_body (fn := Try.f24) rfl c24 (by simp [h24]) (by simp [h24, Try.f24]) ?_
  intro M hP hr hnt hnx hwf hlt
  simp only [h24, argEnv]
  refine hgo_sound 60 ?_
  simp -implicitDefEqProofs (maxSteps := 1000000) only [simpS, ↓condJ_true, ↓condJ_false, ↓reduceIte, Nat.reduceEqDiff, Nat.reduceLT, Nat.reduceLeDiff, reduceCtorEq, Nat.reduceAdd, Nat.reduceSub, bindG_none, addG_none, hgrpK_none, nestK_none, hgrpK_guarded, Option.map_none, beq_self_eq_true, bne_self_eq_false, Option.map_some, if_true, if_false, List.getD_cons_zero, List.getD_cons_succ, List.length_cons, List.length_nil, List.mem_cons, List.not_mem_nil, List.mem_append, List.nil_append, List.cons_append, List.append_nil, List.take_succ_cons, List.take_zero, List.drop_succ_cons, List.drop_zero, List.set_cons_zero, List.set_cons_succ, List.map_cons, List.map_nil, implies_true, forall_const, ne_eq, encB_length]
  refine hx_know_code fun hw hl1 hn => ?_
  refine hx_loop (S := BsS) (fun t => [(0, .slice .no 1 (encB l)), (1, .int .i64 z), (6, .int .i64 l.length), (7, .int .i64 t.i), (8, .int .i64 t.j)]) (fun _ => σ)
    (fun t => t.i ≤ t.j ∧ t.j ≤ l.length ∧ (∀ q, q < t.i → ∀ (h : q < l.length), (l[q] : Int) < z) ∧ (∀ q, t.j ≤ q → ∀ (h : q < l.length), z ≤ (l[q] : Int))) (fun t => t.j - t.i) ⟨0, l.length⟩
    ⟨Nat.zero_le _, Nat.le_refl _, (fun q h _ => by simp at h), fun q h h2 => by simp only at h; omega⟩ (fun _ _ h => by rw [hr] at h; cases h) ?_ ?_
  · exact Drop.all hw hn ⟨⟨rfl, by simp only [D.lt, Own.lt]; exact ⟨trivial, encB_lt _ _⟩⟩, ⟨rfl, trivial⟩, ⟨rfl, trivial⟩, ⟨rfl, trivial⟩, ⟨rfl, trivial⟩, trivial⟩
  rintro ⟨i, j⟩ ⟨h1, h2, h3, h4⟩
  simp only at h1 h2 h3 h4 ⊢
  refine hx_know_code fun hw1 hl2 hn1 => ?_
  by_cases hij : i < j
  · have hd : decide ((i : Int) < (j : Int)) = true := by simp [hij]
    have hw1 : IntKind.i64.wrap ((i : Int) + (j : Int)) = ((i + j : Nat) : Int) := by rw [IntWalk.i64_in _ (by omega)]; omega
    have hh : (i + j) / 2 < j ∧ i ≤ (i + j) / 2 := by omega
    have hhl : (i + j) / 2 < l.length := by omega
    have hm : IntKind.i64.wrap ((IntKind.u64.wrap ((i + j : Nat) : Int)).fdiv (2 ^ min (Int.toNat 1) IntKind.u64.bits)) = (((i + j) / 2 : Nat) : Int) := by
      have e1 : IntKind.u64.wrap ((i + j : Nat) : Int) = ((i + j : Nat) : Int) := IntWalk.u64_in _ (by omega)
      have e2 : (2 : Int) ^ min (Int.toNat 1) IntKind.u64.bits = 2 := by decide
      rw [e1, e2, Int.fdiv_eq_ediv_of_nonneg _ (by decide), IntWalk.i64_in _ (by omega)]
      omega
    have h01 : (0 : Int) ≤ 1 := by decide
    have hp : ((((i + j) / 2 : Nat) : Int)) < (l.length : Int) := by omega
    have hg := encB_get l ((i + j) / 2) hhl
    have hw3 : IntKind.i64.wrap ((((i + j) / 2 : Nat) : Int) + 1) = (((i + j) / 2 + 1 : Nat) : Int) := by rw [IntWalk.i64_in _ (by omega)]; rfl
    refine hgo_sound 60 ?_
    simp -implicitDefEqProofs (maxSteps := 1000000) only [simpS, ↓condJ_true, ↓condJ_false, ↓reduceIte, Nat.reduceEqDiff, Nat.reduceLT, Nat.reduceLeDiff, reduceCtorEq, Nat.reduceAdd, Nat.reduceSub, bindG_none, addG_none, hgrpK_none, nestK_none, hgrpK_guarded, Option.map_none, beq_self_eq_true, bne_self_eq_false, Option.map_some, if_true, if_false, List.getD_cons_zero, List.getD_cons_succ, List.length_cons, List.length_nil, List.mem_cons, List.not_mem_nil, List.mem_append, List.nil_append, List.cons_append, List.append_nil, List.take_succ_cons, List.take_zero, List.drop_succ_cons, List.drop_zero, List.set_cons_zero, List.set_cons_succ, List.map_cons, List.map_nil, implies_true, forall_const, ne_eq, hd, hw1, hm, h01, hp, hg, encB_length, Int.toNat_natCast, Int.natCast_nonneg]
    refine hx_call (f := .fn 30) rfl (by rw [hP]; exact hcallD_func (less_calls _ z _)) ?_
    rintro _ σ2 ⟨rfl, h⟩
    subst σ2
    cases hb : decide ((l[(i + j) / 2] : Int) < z)
    · refine hgo_sound 60 ?_
      simp -implicitDefEqProofs (maxSteps := 1000000) only [simpS, ↓condJ_true, ↓condJ_false, ↓reduceIte, Nat.reduceEqDiff, Nat.reduceLT, Nat.reduceLeDiff, reduceCtorEq, Nat.reduceAdd, Nat.reduceSub, bindG_none, addG_none, hgrpK_none, nestK_none, hgrpK_guarded, Option.map_none, beq_self_eq_true, bne_self_eq_false, Option.map_some, if_true, if_false, List.getD_cons_zero, List.getD_cons_succ, List.length_cons, List.length_nil, List.mem_cons, List.not_mem_nil, List.mem_append, List.nil_append, List.cons_append, List.append_nil, List.take_succ_cons, List.take_zero, List.drop_succ_cons, List.drop_zero, List.set_cons_zero, List.set_cons_succ, List.map_cons, List.map_nil, implies_true, forall_const, ne_eq]
      intro hw2 hl3 hn2
      refine ⟨⟨i, (i + j) / 2⟩, ⟨by simp only; omega, by simp only; omega, h3, fun q h5 h6 => ?_⟩, by simp only; omega, ?_⟩
      · have hz : z ≤ (l[(i + j) / 2] : Int) := by simpa using hb
        simp only at h5
        rcases Nat.lt_or_ge ((i + j) / 2) q with h | h
        · have := hsl _ _ hhl h6 h
          omega
        · have : q = (i + j) / 2 := by omega
          subst this
          exact hz
      · exact Drop.all hw2 hn2 ⟨⟨rfl, by simp only [D.lt, Own.lt]; exact ⟨trivial, encB_lt _ _⟩⟩, ⟨rfl, trivial⟩, ⟨rfl, trivial⟩, ⟨rfl, trivial⟩, ⟨rfl, trivial⟩, trivial⟩
    · refine hgo_sound 60 ?_
      simp -implicitDefEqProofs (maxSteps := 1000000) only [simpS, ↓condJ_true, ↓condJ_false, ↓reduceIte, Nat.reduceEqDiff, Nat.reduceLT, Nat.reduceLeDiff, reduceCtorEq, Nat.reduceAdd, Nat.reduceSub, bindG_none, addG_none, hgrpK_none, nestK_none, hgrpK_guarded, Option.map_none, beq_self_eq_true, bne_self_eq_false, Option.map_some, if_true, if_false, List.getD_cons_zero, List.getD_cons_succ, List.length_cons, List.length_nil, List.mem_cons, List.not_mem_nil, List.mem_append, List.nil_append, List.cons_append, List.append_nil, List.take_succ_cons, List.take_zero, List.drop_succ_cons, List.drop_zero, List.set_cons_zero, List.set_cons_succ, List.map_cons, List.map_nil, implies_true, forall_const, ne_eq, hw3]
      intro hw2 hl3 hn2
      refine ⟨⟨(i + j) / 2 + 1, j⟩, ⟨by simp only; omega, by simp only; omega, fun q h5 h6 => ?_, h4⟩, by simp only; omega, ?_⟩
      · have hz : (l[(i + j) / 2] : Int) < z := by simpa using hb
        simp only at h5
        rcases Nat.lt_or_ge q ((i + j) / 2) with h | h
        · have := hsl _ _ h6 hhl h
          omega
        · have : q = (i + j) / 2 := by omega
          subst this
          exact hz
      · exact Drop.all hw2 hn2 ⟨⟨rfl, by simp only [D.lt, Own.lt]; exact ⟨trivial, encB_lt _ _⟩⟩, ⟨rfl, trivial⟩, ⟨rfl, trivial⟩, ⟨rfl, trivial⟩, ⟨rfl, trivial⟩, trivial⟩
  · have hd : decide ((i : Int) < (j : Int)) = false := by simp; omega
    have hjj : j = i := by omega
    subst hjj
    by_cases hin : j < l.length
    · have hd2 : decide ((j : Int) < (l.length : Int)) = true := by simp [hin]
      have hp : (j : Int) < (l.length : Int) := by omega
      have hg := encB_get l j hin
      cases hb : ((l[j] : Int) == z)
      · refine hgo_sound 60 ?_
        simp -implicitDefEqProofs (maxSteps := 1000000) only [simpS, ↓condJ_true, ↓condJ_false, ↓reduceIte, Nat.reduceEqDiff, Nat.reduceLT, Nat.reduceLeDiff, reduceCtorEq, Nat.reduceAdd, Nat.reduceSub, bindG_none, addG_none, hgrpK_none, nestK_none, hgrpK_guarded, Option.map_none, beq_self_eq_true, bne_self_eq_false, Option.map_some, if_true, if_false, List.getD_cons_zero, List.getD_cons_succ, List.length_cons, List.length_nil, List.mem_cons, List.not_mem_nil, List.mem_append, List.nil_append, List.cons_append, List.append_nil, List.take_succ_cons, List.take_zero, List.drop_succ_cons, List.drop_zero, List.set_cons_zero, List.set_cons_succ, List.map_cons, List.map_nil, implies_true, forall_const, ne_eq, hd, hd2, hp, hg, hb, encB_length, Int.toNat_natCast, Int.natCast_nonneg]
        refine hx_call (f := .fn 31) rfl (by rw [hP]; exact hcallD_func (isNaN_calls _ _)) ?_
        rintro _ σ2 ⟨rfl, h⟩
        subst σ2
        refine hgo_sound 60 ?_
        simp -implicitDefEqProofs (maxSteps := 1000000) only [simpS, ↓condJ_true, ↓condJ_false, ↓reduceIte, Nat.reduceEqDiff, Nat.reduceLT, Nat.reduceLeDiff, reduceCtorEq, Nat.reduceAdd, Nat.reduceSub, bindG_none, addG_none, hgrpK_none, nestK_none, hgrpK_guarded, Option.map_none, beq_self_eq_true, bne_self_eq_false, Option.map_some, if_true, if_false, List.getD_cons_zero, List.getD_cons_succ, List.length_cons, List.length_nil, List.mem_cons, List.not_mem_nil, List.mem_append, List.nil_append, List.cons_append, List.append_nil, List.take_succ_cons, List.take_zero, List.drop_succ_cons, List.drop_zero, List.set_cons_zero, List.set_cons_succ, List.map_cons, List.map_nil, implies_true, forall_const, ne_eq]
        exact fpost_pure (σ0 := σ) (ds := [.int .i64 (j : Int), .bool false]) (.inr rfl) (by rw [hnx]; exact Nat.le_refl _) hwf (Sub.refl σ) rfl trivial ⟨trivial, trivial, trivial⟩ ⟨j, false, rfl, ⟨h2, h3, h4, ⟨(fun h => by cases h), (fun h => by obtain ⟨_, e⟩ := h; simp [e] at hb)⟩⟩, rfl⟩
      · refine hgo_sound 60 ?_
        simp -implicitDefEqProofs (maxSteps := 1000000) only [simpS, ↓condJ_true, ↓condJ_false, ↓reduceIte, Nat.reduceEqDiff, Nat.reduceLT, Nat.reduceLeDiff, reduceCtorEq, Nat.reduceAdd, Nat.reduceSub, bindG_none, addG_none, hgrpK_none, nestK_none, hgrpK_guarded, Option.map_none, beq_self_eq_true, bne_self_eq_false, Option.map_some, if_true, if_false, List.getD_cons_zero, List.getD_cons_succ, List.length_cons, List.length_nil, List.mem_cons, List.not_mem_nil, List.mem_append, List.nil_append, List.cons_append, List.append_nil, List.take_succ_cons, List.take_zero, List.drop_succ_cons, List.drop_zero, List.set_cons_zero, List.set_cons_succ, List.map_cons, List.map_nil, implies_true, forall_const, ne_eq, hd, hd2, hp, hg, hb, encB_length, Int.toNat_natCast, Int.natCast_nonneg]
        exact fpost_pure (σ0 := σ) (ds := [.int .i64 (j : Int), .bool true]) (.inr rfl) (by rw [hnx]; exact Nat.le_refl _) hwf (Sub.refl σ) rfl trivial ⟨trivial, trivial, trivial⟩ ⟨j, true, rfl, ⟨h2, h3, h4, ⟨(fun _ => ⟨hin, by simpa using hb⟩), (fun _ => rfl)⟩⟩, rfl⟩
    · have hd2 : decide ((j : Int) < (l.length : Int)) = false := by simp; omega
      have hge : (encB l).getD j [] = [] := by simp [encB, List.getD, hin]
      refine hgo_sound 60 ?_
      simp -implicitDefEqProofs (maxSteps := 1000000) only [simpS, ↓condJ_true, ↓condJ_false, ↓reduceIte, Nat.reduceEqDiff, Nat.reduceLT, Nat.reduceLeDiff, reduceCtorEq, Nat.reduceAdd, Nat.reduceSub, bindG_none, addG_none, hgrpK_none, nestK_none, hgrpK_guarded, Option.map_none, beq_self_eq_true, bne_self_eq_false, Option.map_some, if_true, if_false, List.getD_cons_zero, List.getD_cons_succ, List.length_cons, List.length_nil, List.mem_cons, List.not_mem_nil, List.mem_append, List.nil_append, List.cons_append, List.append_nil, List.take_succ_cons, List.take_zero, List.drop_succ_cons, List.drop_zero, List.set_cons_zero, List.set_cons_succ, List.map_cons, List.map_nil, implies_true, forall_const, ne_eq, hd, hd2, hge, Int.toNat_natCast, List.getD_nil]
      exact fpost_pure (σ0 := σ) (ds := [.int .i64 (j : Int), .bool false]) (.inr rfl) (by rw [hnx]; exact Nat.le_refl _) hwf (Sub.refl σ) rfl trivial ⟨trivial, trivial, trivial⟩ ⟨j, false, rfl, ⟨h2, h3, h4, ⟨(fun h => by cases h), (fun h => absurd h.1 hin)⟩⟩, rfl⟩


end Go.Hl
