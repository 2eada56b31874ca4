/-
  The reference: left, Right.
-/
import Derived.Test.YtlaljehmcacmjaaTrF
set_option linter.unusedSectionVars false
set_option linter.unusedVariables false
set_option linter.unusedSimpArgs false
set_option maxRecDepth 100000
namespace Go.Hl
open Go Go.Proofs

def badN : Nd → Bool
  | .mk k g t a ks => decide (k < 1 ∨ k > 32 ∨ (k = 1 ∧ (t.size = 0 ∨ a < 0 ∨ ks.length > 0)) ∨ (k > 1 ∧ (t.size > 0 ∨ g.size > 0 ∨ a ≠ 0)))

mutual
def leftN : Nd → Int → Int
  | .mk k g t a ks, many => if many - 1 < 0 ∨ badN (.mk k g t a ks) = true then -1 else leftNs ks (many - 1)
def leftNs : List Nd → Int → Int
  | [], many => many
  | n :: ns, many => if leftN n many < 0 then -1 else leftNs ns (leftN n many)
end

mutual
theorem leftN_le : ∀ (n : Nd) (many : Int), 0 ≤ many → -1 ≤ leftN n many ∧ leftN n many ≤ many
  | .mk k g t a ks, many, h => by
    simp only [leftN]
    split
    · omega
    · rename_i hc
      have := leftNs_le ks (many - 1) (by omega)
      omega
theorem leftNs_le : ∀ (ns : List Nd) (many : Int), 0 ≤ many → -1 ≤ leftNs ns many ∧ leftNs ns many ≤ many
  | [], many, h => by simp only [leftNs]; omega
  | n :: ns, many, h => by
    simp only [leftNs]
    have h1 := leftN_le n many h
    split
    · omega
    · have := leftNs_le ns (leftN n many) (by omega)
      omega
end

structure LS where
  j : Nat
  many : Int

theorem left_calls : ∀ (sz : Nat) (n : Nd), cntN n ≤ sz → sz ≤ 1099511627776 → ∀ (many : Int), 0 ≤ many → many ≤ 1099511627776 → ∀ (σ : St), HCalls Try.prog 33 [.agg (encN n), .int .i64 many] σ (fun d σ' => d = .int .i64 (leftN n many) ∧ σ' = σ) := by
  intro sz
  induction sz with
  | zero => intro n hn; have := cntN_pos n; omega
  | succ sz ih =>
  intro n hn hsz many hm0 hm1 σ
  refine hcalls_body (fn := Try.f33) rfl c33 (by simp [h33]) (by simp [h33, Try.f33]) ?_
  intro M hP hr hnt hnx hwf hlt
  obtain ⟨k, g, t, a, ks⟩ := n
  have hks := cntN_kids (.mk k g t a ks)
  simp only [Nd.kids] at hks
  have hkl := kids_le ks
  have hkinds : encN (.mk k g t a ks) = [.int .i64 k, .str g, .str t, .int .i64 a, .slice .no 5 (encNs ks)] := by simp only [encN]
  have hbx : (σ.new (.box (encN (.mk k g t a ks)))).wf := hwf.box (encN_lt _ _)
  have hsub : Ext σ (σ.new (.box (encN (.mk k g t a ks)))) := (Ext.refl σ).new _
  rw [hkinds] at hbx hsub ⊢
  have hw1 : IntKind.i64.wrap (many - 1) = many - 1 := IntWalk.i64_in _ (by omega)
  simp only [h33, argEnv]
  refine hgo_sound 60 ?_
  simp -implicitDefEqProofs (maxSteps := 1000000) only [simpS, ↓condJ_true, ↓condJ_false, ↓reduceIte, Nat.reduceEqDiff, Nat.reduceLT, Nat.reduceLeDiff, reduceCtorEq, Nat.reduceAdd, Nat.reduceSub, Option.map_some, if_true, if_false, List.getD_cons_zero, List.getD_cons_succ, List.length_cons, List.length_nil, List.mem_cons, List.not_mem_nil, List.mem_append, List.nil_append, List.cons_append, List.append_nil, List.take_succ_cons, List.take_zero, List.drop_succ_cons, List.drop_zero, List.set_cons_zero, List.set_cons_succ, List.map_cons, List.map_nil, implies_true, forall_const, ne_eq, hw1]
  have fin : ∀ (v : Int) (e : Env), look e 4 = .int .i64 v → v = leftN (.mk k g t a ks) many → FPost M.gS.next [HR.tmp 4] (fun d σ' => d = .int .i64 (leftN (.mk k g t a ks) many) ∧ σ' = σ) .ret e (σ.new (.box [.int .i64 k, .str g, .str t, .int .i64 a, .slice .no 5 (encNs ks)])) := by
    intro v e h1 h2
    refine fpost_pure (σ0 := σ) (.inr rfl) (by omega) hwf (hsub.sub hwf) (by simp only [resD, h1]; rfl) trivial ?_ ⟨by rw [← h2]; rfl, rfl⟩
    simp only [tupD, D.lt]
  have be0 : ∀ b : ByteArray, b = ByteArray.empty ↔ b.size = 0 := fun b => ⟨fun h => by rw [h]; rfl, fun h => by simpa using h⟩
  have ke0 : ks = [] ↔ ks.length = 0 := List.length_eq_zero_iff.symm
  have hkl2 : ((encNs ks).length : Int) > 0 ↔ ks.length > 0 := by rw [encNs_length]; omega
  refine ⟨fun h1 => fin _ _ rfl ?_, fun h1 => ⟨fun h2 => fin _ _ rfl ?_, fun h2 => ?_⟩⟩
  · simp only [leftN]
    rw [if_pos]
    simp at h1
    simp only [badN, decide_eq_true_eq]
    omega
  · simp only [leftN]
    rw [if_pos]
    simp [encNs_length] at h2
    simp only [be0, ke0] at h2
    simp only [badN, decide_eq_true_eq]
    omega
  · have hgood : ¬ (many - 1 < 0 ∨ badN (.mk k g t a ks) = true) := by
      simp at h1
      simp [encNs_length] at h2
      simp only [be0, ke0] at h2
      simp only [badN, decide_eq_true_eq]
      omega
    have hL : leftN (.mk k g t a ks) many = leftNs ks (many - 1) := by simp only [leftN]; rw [if_neg hgood]
    rw [hL]
    refine hx_know_code fun hw hl hn1 => ?_
    refine hx_loop (S := LS) (fun s => [(1, .int .i64 s.many), (2, .ptr σ.next 0), (5, .int .i64 s.j)]) (fun _ => σ.new (.box [.int .i64 k, .str g, .str t, .int .i64 a, .slice .no 5 (encNs ks)]))
      (fun s => s.j ≤ ks.length ∧ 0 ≤ s.many ∧ s.many ≤ 1099511627776 ∧ leftNs ks (many - 1) = leftNs (ks.drop s.j) s.many) (fun s => ks.length - s.j) ⟨0, many - 1⟩ ⟨Nat.zero_le _, by simp only; omega, by simp only; omega, rfl⟩ (fun _ _ h => by rw [hr] at h; cases h)
      (Drop.all hw (by rw [hnx]; exact Nat.le_succ _) ⟨⟨rfl, trivial⟩, ⟨rfl, hl 2⟩, ⟨rfl, trivial⟩, trivial⟩) ?_
    rintro ⟨j, m⟩ ⟨j1, j2, j3, j4⟩
    simp only at j1 j2 j3 j4 ⊢
    have hjc : ((j : Int) < ((encNs ks).length : Int)) = (j < ks.length) := by rw [encNs_length]; simp
    by_cases hj : j < ks.length
    · have hjd : decide (((j : Nat) : Int) < ((encNs ks).length : Int)) = true := by simp [hjc, hj]
      have hget : (encNs ks).getD j [] = encN ks[j] := by rw [encNs_eq]; simp [List.getD, hj]
      have hjp : ((j : Int) < ((encNs ks).length : Int)) := by rw [encNs_length]; omega
      have hdrop : ks.drop j = ks[j] :: ks.drop (j + 1) := List.drop_eq_getElem_cons hj
      rw [hdrop] at j4
      simp only [leftNs] at j4
      have hcm := cntN_mem (List.getElem_mem hj)
      have hle := leftN_le ks[j] m j2
      refine hgo_sound 60 ?_
      simp -implicitDefEqProofs (maxSteps := 1000000) only [simpS, ↓condJ_true, ↓condJ_false, ↓reduceIte, Nat.reduceEqDiff, Nat.reduceLT, Nat.reduceLeDiff, reduceCtorEq, Nat.reduceAdd, Nat.reduceSub, Option.map_some, if_true, if_false, List.getD_cons_zero, List.getD_cons_succ, List.length_cons, List.length_nil, List.mem_cons, List.not_mem_nil, List.mem_append, List.nil_append, List.cons_append, List.append_nil, List.take_succ_cons, List.take_zero, List.drop_succ_cons, List.drop_zero, List.set_cons_zero, List.set_cons_succ, List.map_cons, List.map_nil, implies_true, forall_const, ne_eq, hjd, hjp, Int.toNat_natCast, Int.natCast_nonneg, hget, encN_length, encN_take]
      refine hx_call (f := .fn 33) rfl (by rw [hP]; exact hcallD_func (ih ks[j] (by omega) (by omega) m j2 j3 _)) ?_
      rintro _ _ ⟨rfl, rfl⟩
      have hwr : IntKind.i64.wrap ((j : Int) + 1) = ((j + 1 : Nat) : Int) := by rw [IntWalk.i64_in _ (by omega)]; rfl
      refine hgo_sound 60 ?_
      simp -implicitDefEqProofs (maxSteps := 1000000) only [simpS, ↓condJ_true, ↓condJ_false, ↓reduceIte, Nat.reduceEqDiff, Nat.reduceLT, Nat.reduceLeDiff, reduceCtorEq, Nat.reduceAdd, Nat.reduceSub, Option.map_some, if_true, if_false, List.getD_cons_zero, List.getD_cons_succ, List.length_cons, List.length_nil, List.mem_cons, List.not_mem_nil, List.mem_append, List.nil_append, List.cons_append, List.append_nil, List.take_succ_cons, List.take_zero, List.drop_succ_cons, List.drop_zero, List.set_cons_zero, List.set_cons_succ, List.map_cons, List.map_nil, implies_true, forall_const, ne_eq, hwr]
      refine ⟨fun hb => ?_, fun hb => ?_⟩
      · have hb' : leftN ks[j] m < 0 := by simpa using hb
        rw [if_pos hb'] at j4
        rw [j4]
        exact fpost_pure (σ0 := σ) (.inr rfl) (by omega) hwf (hsub.sub hwf) rfl trivial trivial ⟨rfl, rfl⟩
      · have hb' : ¬ leftN ks[j] m < 0 := by simpa using hb
        rw [if_neg hb'] at j4
        intro hw2 hl2 hn2
        refine ⟨⟨j + 1, leftN ks[j] m⟩, ⟨by simp only; omega, by simp only; omega, by simp only; omega, j4⟩, by simp only; omega, ?_⟩
        exact Drop.all hw2 hn2 ⟨⟨rfl, trivial⟩, ⟨rfl, by have := hl2 2; exact this⟩, ⟨rfl, trivial⟩, trivial⟩
    · have hjd : decide (((j : Nat) : Int) < ((encNs ks).length : Int)) = false := by simp [hjc, hj]
      have hdrop : ks.drop j = [] := List.drop_eq_nil_of_le (by omega)
      rw [hdrop] at j4
      simp only [leftNs] at j4
      refine hgo_sound 60 ?_
      simp -implicitDefEqProofs (maxSteps := 1000000) only [simpS, ↓condJ_true, ↓condJ_false, ↓reduceIte, Nat.reduceEqDiff, Nat.reduceLT, Nat.reduceLeDiff, reduceCtorEq, Nat.reduceAdd, Nat.reduceSub, Option.map_some, if_true, if_false, List.getD_cons_zero, List.getD_cons_succ, List.length_cons, List.length_nil, List.mem_cons, List.not_mem_nil, List.mem_append, List.nil_append, List.cons_append, List.append_nil, List.take_succ_cons, List.take_zero, List.drop_succ_cons, List.drop_zero, List.set_cons_zero, List.set_cons_succ, List.map_cons, List.map_nil, implies_true, forall_const, ne_eq, hjd]
      rw [j4]
      exact fpost_pure (σ0 := σ) (.inr rfl) (by omega) hwf (hsub.sub hwf) rfl trivial trivial ⟨rfl, rfl⟩

def rRightN (n : Nd) : Bool := decide (leftN n 20000 ≥ 0)

theorem rright_calls (n : Nd) (hn : cntN n ≤ 1099511627776) (σ : St) : HCalls Try.prog 10 [.agg (encN n)] σ (fun d σ' => d = .bool (rRightN n) ∧ σ' = σ) := by
  refine hcalls_body (fn := Try.f10) rfl c10 (by simp [h10]) (by simp [h10, Try.f10]) ?_
  intro M hP hr hnt hnx hwf hlt
  simp only [h10, argEnv]
  refine hgo_sound 40 ?_
  simp -implicitDefEqProofs (maxSteps := 1000000) only [simpS, ↓condJ_true, ↓condJ_false, ↓reduceIte, Nat.reduceEqDiff, Nat.reduceLT, Nat.reduceLeDiff, reduceCtorEq, Nat.reduceAdd, Nat.reduceSub, Option.map_some, if_true, if_false, List.getD_cons_zero, List.getD_cons_succ, List.length_cons, List.length_nil, List.mem_cons, List.not_mem_nil, List.mem_append, List.nil_append, List.cons_append, List.append_nil, List.take_succ_cons, List.take_zero, List.drop_succ_cons, List.drop_zero, List.set_cons_zero, List.set_cons_succ, List.map_cons, List.map_nil, implies_true, forall_const, ne_eq, encN_length]
  refine hx_call (f := .fn 33) rfl (by rw [hP]; exact hcallD_func (left_calls _ n (Nat.le_refl _) hn 20000 (by omega) (by omega) _)) ?_
  rintro _ σ2 ⟨rfl, rfl⟩
  refine hgo_sound 40 ?_
  simp -implicitDefEqProofs (maxSteps := 1000000) only [simpS, ↓condJ_true, ↓condJ_false, ↓reduceIte, Nat.reduceEqDiff, Nat.reduceLT, Nat.reduceLeDiff, reduceCtorEq, Nat.reduceAdd, Nat.reduceSub, Option.map_some, if_true, if_false, List.getD_cons_zero, List.getD_cons_succ, List.length_cons, List.length_nil, List.mem_cons, List.not_mem_nil, List.mem_append, List.nil_append, List.cons_append, List.append_nil, List.take_succ_cons, List.take_zero, List.drop_succ_cons, List.drop_zero, List.set_cons_zero, List.set_cons_succ, List.map_cons, List.map_nil, implies_true, forall_const, ne_eq]
  exact fpost_pure (σ0 := σ) (.inr rfl) (by omega) hwf (((Ext.refl σ).new _).sub hwf) rfl trivial trivial ⟨rfl, rfl⟩

end Go.Hl
