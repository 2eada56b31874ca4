/-
  Layer 1: a Table's methods.
-/
import Derived.Test.YtldfojmjjidadaaTxF
set_option linter.unusedSectionVars false
set_option linter.unusedVariables false
set_option linter.unusedSimpArgs false
set_option maxRecDepth 100000
namespace Go.Hl
open Go Go.Proofs Go.RowKit

/-- A Table that was not looked through, or was. -/
def TbP (σ : St) (id k : Nat) (s : ByteArray) : Prop :=
  id ≠ k ∧ ((σ.obj id = some (tabO s k 0 0 0 []) ∧ σ.obj k = some (tkO [])) ∨ (σ.obj id = some (tabO s k 1 0 1 (begs s)) ∧ σ.obj k = some (tkO (begs s))))

theorem TbP.id {σ : St} {id k : Nat} {s : ByteArray} (H : TbP σ id k s) : ∃ dn md xs, σ.obj id = some (tabO s k dn 0 md xs) := by
  rcases H with ⟨_, ⟨h, _⟩ | ⟨h, _⟩⟩ <;> exact ⟨_, _, _, h⟩
theorem TbP.k {σ : St} {id k : Nat} {s : ByteArray} (H : TbP σ id k s) : ∃ xs, σ.obj k = some (tkO xs) := by
  rcases H with ⟨_, ⟨_, h⟩ | ⟨_, h⟩⟩ <;> exact ⟨_, h⟩
theorem tbS_tbP {σ : St} {id k : Nat} {s : ByteArray} (H : id ≠ k) : TbP (tbS σ id k s) id k s :=
  ⟨H, .inr ⟨by simp [tbS, St.obj_put], by simp [tbS, St.obj_put, Ne.symm H]⟩⟩
theorem tbS_self {σ : St} {id k : Nat} {s : ByteArray} (h1 : σ.obj id = some (tabO s k 1 0 1 (begs s))) (h2 : σ.obj k = some (tkO (begs s))) : tbS σ id k s = σ := by
  unfold tbS
  rw [put_self h2, put_self h1]
theorem tbS_tbS {σ : St} {id k : Nat} {s : ByteArray} (H : id ≠ k) : tbS (tbS σ id k s) id k s = tbS σ id k s :=
  tbS_self (by simp [tbS, St.obj_put]) (by simp [tbS, St.obj_put, Ne.symm H])
theorem tbS_next {σ : St} {id k : Nat} {s : ByteArray} : (tbS σ id k s).next = σ.next := rfl
theorem TbP.wf {σ : St} {id k : Nat} {s : ByteArray} (H : TbP σ id k s) (hw : σ.wf) : (tbS σ id k s).wf := by
  obtain ⟨_, _, _, h1⟩ := H.id
  obtain ⟨_, h2⟩ := H.k
  exact tbS_wf hw s (hw.obj _ _ h1).1 (hw.obj _ _ h2).1
theorem tbS_ob {σ : St} {id k : Nat} {s : ByteArray} : (tbS σ id k s).obj id = some (tabO s k 1 0 1 (begs s)) := by simp [tbS, St.obj_put]

theorem begins_calls {id k : Nat} {s : ByteArray} (hs : s.size ≤ 1099511627776) (σ : St) (H : TbP σ id k s) : HCalls Try.prog 21 [.ptr id 0] σ (fun d σ' => d = .slice .no 1 (encB (begs s)) ∧ σ' = tbS σ id k s) := by
  obtain ⟨e, ⟨h1, h2⟩ | ⟨h1, h2⟩⟩ := H
  · exact begins0_calls hs σ ⟨h1, h2, e⟩
  · rw [tbS_self h1 h2]
    exact begins9_calls σ h1

theorem len_calls {id k : Nat} {s : ByteArray} (hs : s.size ≤ 1099511627776) (σ : St) (H : TbP σ id k s) : HCalls Try.prog 13 [.ptr id 0] σ (fun d σ' => d = .int .i64 ((begs s).length : Int) ∧ σ' = tbS σ id k s) := by
  refine hcalls_body (fn := Try.f13) rfl c13 (by simp [h13]) (by simp [h13, Try.f13]) ?_
  intro M hP hr hnt hnx hwf hlt
  simp only [h13, argEnv]
  have hnt' : M.nt = 8 := hnt
  refine hgo_sound 60 ?_
  simp -implicitDefEqProofs (maxSteps := 1000000) only [simpS, ↓condJ_true, ↓condJ_false, ↓reduceIte, Nat.reduceEqDiff, Nat.reduceLT, Nat.reduceLeDiff, reduceCtorEq, Nat.reduceAdd, Nat.reduceSub, bindG_none, addG_none, hgrpK_none, nestK_none, hgrpK_guarded, Option.map_none, beq_self_eq_true, bne_self_eq_false, Option.map_some, if_true, if_false, List.getD_cons_zero, List.getD_cons_succ, List.length_cons, List.length_nil, List.mem_cons, List.not_mem_nil, List.mem_append, List.nil_append, List.cons_append, List.append_nil, List.take_succ_cons, List.take_zero, List.drop_succ_cons, List.drop_zero, List.set_cons_zero, List.set_cons_succ, List.map_cons, List.map_nil, implies_true, forall_const, ne_eq]
  refine hx_call (f := .fn 21) rfl (by rw [hP]; exact hcallD_func (begins_calls hs σ H)) ?_
  rintro _ σ2 ⟨rfl, rfl⟩
  refine hgo_sound 60 ?_
  simp -implicitDefEqProofs (maxSteps := 1000000) only [simpS, ↓condJ_true, ↓condJ_false, ↓reduceIte, Nat.reduceEqDiff, Nat.reduceLT, Nat.reduceLeDiff, reduceCtorEq, Nat.reduceAdd, Nat.reduceSub, bindG_none, addG_none, hgrpK_none, nestK_none, hgrpK_guarded, Option.map_none, beq_self_eq_true, bne_self_eq_false, Option.map_some, if_true, if_false, List.getD_cons_zero, List.getD_cons_succ, List.length_cons, List.length_nil, List.mem_cons, List.not_mem_nil, List.mem_append, List.nil_append, List.cons_append, List.append_nil, List.take_succ_cons, List.take_zero, List.drop_succ_cons, List.drop_zero, List.set_cons_zero, List.set_cons_succ, List.map_cons, List.map_nil, implies_true, forall_const, ne_eq, encB_length]
  exact fpost_keep (.inr rfl) rfl trivial (by intro _; repeat' (first | trivial | apply And.intro)) (by intro hw; exact ⟨rfl, rfl⟩)

theorem made_calls {id k : Nat} {s : ByteArray} {dn md : Int} {xs : List Nat} (σ : St) (ho : σ.obj id = some (tabO s k dn 0 md xs)) : HCalls Try.prog 9 [.ptr id 0] σ (fun d σ' => d = .int .i64 md ∧ σ' = σ) := by
  refine hcalls_body (fn := Try.f9) rfl c9 (by simp [h9]) (by simp [h9, Try.f9]) ?_
  intro M hP hr hnt hnx hwf hlt
  simp only [h9, argEnv]
  have hnt' : M.nt = 9 := hnt
  refine hgo_sound 60 ?_
  simp -implicitDefEqProofs (maxSteps := 1000000) only [simpS, ↓condJ_true, ↓condJ_false, ↓reduceIte, Nat.reduceEqDiff, Nat.reduceLT, Nat.reduceLeDiff, reduceCtorEq, Nat.reduceAdd, Nat.reduceSub, bindG_none, addG_none, hgrpK_none, nestK_none, hgrpK_guarded, Option.map_none, beq_self_eq_true, bne_self_eq_false, Option.map_some, if_true, if_false, List.getD_cons_zero, List.getD_cons_succ, List.length_cons, List.length_nil, List.mem_cons, List.not_mem_nil, List.mem_append, List.nil_append, List.cons_append, List.append_nil, List.take_succ_cons, List.take_zero, List.drop_succ_cons, List.drop_zero, List.set_cons_zero, List.set_cons_succ, List.map_cons, List.map_nil, implies_true, forall_const, ne_eq]
  refine hx_call (f := .fn 18) rfl (by rw [hP]; exact hcallD_func (i64Load_calls σ ho)) ?_
  rintro _ σ2 ⟨rfl, h⟩
  subst σ2
  refine hgo_sound 60 ?_
  simp -implicitDefEqProofs (maxSteps := 1000000) only [simpS, ↓condJ_true, ↓condJ_false, ↓reduceIte, Nat.reduceEqDiff, Nat.reduceLT, Nat.reduceLeDiff, reduceCtorEq, Nat.reduceAdd, Nat.reduceSub, bindG_none, addG_none, hgrpK_none, nestK_none, hgrpK_guarded, Option.map_none, beq_self_eq_true, bne_self_eq_false, Option.map_some, if_true, if_false, List.getD_cons_zero, List.getD_cons_succ, List.length_cons, List.length_nil, List.mem_cons, List.not_mem_nil, List.mem_append, List.nil_append, List.cons_append, List.append_nil, List.take_succ_cons, List.take_zero, List.drop_succ_cons, List.drop_zero, List.set_cons_zero, List.set_cons_succ, List.map_cons, List.map_nil, implies_true, forall_const, ne_eq]
  exact fpost_pure (σ0 := σ) (.inr rfl) (by rw [hnx]; exact Nat.le_refl _) hwf (by first | exact Sub.refl σ | exact (((Ext.refl _).new _).sub hwf)) rfl trivial (by repeat' (first | trivial | apply And.intro)) ⟨rfl, rfl⟩

/-- Where a line ends. -/
def endN (s : ByteArray) (n : Nat) : Nat := (begs s).getD n 0 + lnN s n

theorem end_calls {id k : Nat} {s : ByteArray} (hs : s.size ≤ 1099511627776) {n : Nat} (hn : n < (begs s).length) (σ : St) (H : TbP σ id k s) : HCalls Try.prog 22 [.ptr id 0, .int .i64 (n : Int)] σ (fun d σ' => d = .int .i64 (endN s n : Int) ∧ σ' = tbS σ id k s) := by
  refine hcalls_body (fn := Try.f22) rfl c22 (by simp [h22]) (by simp [h22, Try.f22]) ?_
  intro M hP hr hnt hnx hwf hlt
  simp only [h22, argEnv]
  have hnt' : M.nt = 24 := hnt
  have hl := begs_len s
  have hx := begs_next s n hn
  have hw := H.wf hwf
  have hw1 : IntKind.i64.wrap ((n : Int) + 1) = ((n + 1 : Nat) : Int) := by rw [IntWalk.i64_in _ (by omega)]; rfl
  refine hgo_sound 60 ?_
  simp -implicitDefEqProofs (maxSteps := 1000000) only [simpS, ↓condJ_true, ↓condJ_false, ↓reduceIte, Nat.reduceEqDiff, Nat.reduceLT, Nat.reduceLeDiff, reduceCtorEq, Nat.reduceAdd, Nat.reduceSub, bindG_none, addG_none, hgrpK_none, nestK_none, hgrpK_guarded, Option.map_none, beq_self_eq_true, bne_self_eq_false, Option.map_some, if_true, if_false, List.getD_cons_zero, List.getD_cons_succ, List.length_cons, List.length_nil, List.mem_cons, List.not_mem_nil, List.mem_append, List.nil_append, List.cons_append, List.append_nil, List.take_succ_cons, List.take_zero, List.drop_succ_cons, List.drop_zero, List.set_cons_zero, List.set_cons_succ, List.map_cons, List.map_nil, implies_true, forall_const, ne_eq]
  refine hx_call (f := .fn 21) rfl (by rw [hP]; exact hcallD_func (begins_calls hs σ H)) ?_
  rintro _ σ2 ⟨rfl, rfl⟩
  by_cases h : n + 1 < (begs s).length
  · have hd : decide (((n + 1 : Nat) : Int) < ((begs s).length : Int)) = true := by simp; omega
    have hd2 : ((n + 1 : Nat) : Int) < ((begs s).length : Int) := by omega
    have hg := encB_get (begs s) (n + 1) h
    have he : (begs s)[n + 1] = endN s n + 1 := by
      have := hx.2.1 h
      rw [getD_el h] at this
      exact this
    have hw2 : IntKind.i64.wrap (((begs s)[n + 1] : Int) - 1) = (endN s n : Int) := by
      rw [he, IntWalk.i64_in _ (by have := hx.1; unfold endN lnN; omega)]
      omega
    refine hgo_sound 60 ?_
    simp -implicitDefEqProofs (maxSteps := 1000000) only [simpS, ↓condJ_true, ↓condJ_false, ↓reduceIte, Nat.reduceEqDiff, Nat.reduceLT, Nat.reduceLeDiff, reduceCtorEq, Nat.reduceAdd, Nat.reduceSub, bindG_none, addG_none, hgrpK_none, nestK_none, hgrpK_guarded, Option.map_none, beq_self_eq_true, bne_self_eq_false, Option.map_some, if_true, if_false, List.getD_cons_zero, List.getD_cons_succ, List.length_cons, List.length_nil, List.mem_cons, List.not_mem_nil, List.mem_append, List.nil_append, List.cons_append, List.append_nil, List.take_succ_cons, List.take_zero, List.drop_succ_cons, List.drop_zero, List.set_cons_zero, List.set_cons_succ, List.map_cons, List.map_nil, implies_true, forall_const, ne_eq, encB_length, hw1, hd, hd2, hg, hw2, Int.toNat_natCast, Int.natCast_nonneg]
    exact fpost_keep (.inr rfl) rfl trivial (by intro _; repeat' (first | trivial | apply And.intro)) (by intro hw; exact ⟨rfl, rfl⟩)
  · have hd : decide (((n + 1 : Nat) : Int) < ((begs s).length : Int)) = false := by simp; omega
    have he : (s.size : Int) = (endN s n : Int) := by
      have := hx.2.2 (by omega)
      unfold endN lnN
      omega
    refine hgo_sound 60 ?_
    simp -implicitDefEqProofs (maxSteps := 1000000) only [simpS, ↓condJ_true, ↓condJ_false, ↓reduceIte, Nat.reduceEqDiff, Nat.reduceLT, Nat.reduceLeDiff, reduceCtorEq, Nat.reduceAdd, Nat.reduceSub, bindG_none, addG_none, hgrpK_none, nestK_none, hgrpK_guarded, Option.map_none, beq_self_eq_true, bne_self_eq_false, Option.map_some, if_true, if_false, List.getD_cons_zero, List.getD_cons_succ, List.length_cons, List.length_nil, List.mem_cons, List.not_mem_nil, List.mem_append, List.nil_append, List.cons_append, List.append_nil, List.take_succ_cons, List.take_zero, List.drop_succ_cons, List.drop_zero, List.set_cons_zero, List.set_cons_succ, List.map_cons, List.map_nil, implies_true, forall_const, ne_eq, encB_length, hw1, hd, tbS_ob, tabO_eq, he]
    exact fpost_keep (.inr rfl) rfl trivial (by intro _; repeat' (first | trivial | apply And.intro)) (by intro hw; exact ⟨rfl, rfl⟩)

abbrev erR : D := .iface 39 (.int .i64 1)

/-- What Line tells. -/
def lineD (s : ByteArray) (n : Int) : List D :=
  if 0 ≤ n ∧ n < (begs s).length then [.str (lnA s ((begs s).getD n.toNat 0)), .nili] else [.str ⟨#[]⟩, erR]

theorem line_calls {id k : Nat} {s : ByteArray} (hs : s.size ≤ 1099511627776) {n : Int} (h1 : -9223372036854775808 ≤ n) (h2 : n ≤ 9223372036854775807) (σ : St) (H : TbP σ id k s) : HCalls Try.prog 11 [.ptr id 0, .int .i64 n] σ (fun d σ' => d = .tuple (lineD s n) ∧ σ' = if n < 0 then σ else tbS σ id k s) := by
  refine hcalls_body (fn := Try.f11) rfl c11 (by simp [h11]) (by simp [h11, Try.f11]) ?_
  intro M hP hr hnt hnx hwf hlt
  simp only [h11, argEnv]
  have hnt' : M.nt = 28 := hnt
  have hl := begs_len s
  have hw := H.wf hwf
  have hne := H.1
  unfold lineD
  by_cases hn : n < 0
  · have hd : decide (n < 0) = true := by simp [hn]
    rw [if_neg (by omega), if_pos hn]
    refine hgo_sound 60 ?_
    simp -implicitDefEqProofs (maxSteps := 1000000) only [simpS, ↓condJ_true, ↓condJ_false, ↓reduceIte, Nat.reduceEqDiff, Nat.reduceLT, Nat.reduceLeDiff, reduceCtorEq, Nat.reduceAdd, Nat.reduceSub, bindG_none, addG_none, hgrpK_none, nestK_none, hgrpK_guarded, Option.map_none, beq_self_eq_true, bne_self_eq_false, Option.map_some, if_true, if_false, List.getD_cons_zero, List.getD_cons_succ, List.length_cons, List.length_nil, List.mem_cons, List.not_mem_nil, List.mem_append, List.nil_append, List.cons_append, List.append_nil, List.take_succ_cons, List.take_zero, List.drop_succ_cons, List.drop_zero, List.set_cons_zero, List.set_cons_succ, List.map_cons, List.map_nil, implies_true, forall_const, ne_eq, hd]
    exact fpost_pure (σ0 := σ) (.inr rfl) (by rw [hnx]; exact Nat.le_refl _) hwf (by first | exact Sub.refl σ | exact (((Ext.refl _).new _).sub hwf)) rfl trivial (by repeat' (first | trivial | apply And.intro)) ⟨rfl, rfl⟩
  have hd : decide (n < 0) = false := by simp [hn]
  rw [if_neg hn]
  refine hgo_sound 60 ?_
  simp -implicitDefEqProofs (maxSteps := 1000000) only [simpS, ↓condJ_true, ↓condJ_false, ↓reduceIte, Nat.reduceEqDiff, Nat.reduceLT, Nat.reduceLeDiff, reduceCtorEq, Nat.reduceAdd, Nat.reduceSub, bindG_none, addG_none, hgrpK_none, nestK_none, hgrpK_guarded, Option.map_none, beq_self_eq_true, bne_self_eq_false, Option.map_some, if_true, if_false, List.getD_cons_zero, List.getD_cons_succ, List.length_cons, List.length_nil, List.mem_cons, List.not_mem_nil, List.mem_append, List.nil_append, List.cons_append, List.append_nil, List.take_succ_cons, List.take_zero, List.drop_succ_cons, List.drop_zero, List.set_cons_zero, List.set_cons_succ, List.map_cons, List.map_nil, implies_true, forall_const, ne_eq, hd]
  refine hx_call (f := .fn 13) rfl (by rw [hP]; exact hcallD_func (len_calls hs σ H)) ?_
  rintro _ σ2 ⟨rfl, rfl⟩
  by_cases hm : n < (begs s).length
  · obtain ⟨m, rfl⟩ : ∃ m : Nat, n = (m : Int) := ⟨n.toNat, by omega⟩
    rw [if_pos ⟨by omega, hm⟩, Int.toNat_natCast]
    have hml : m < (begs s).length := by omega
    have hd2 : decide ((m : Int) ≥ ((begs s).length : Int)) = false := by simp; omega
    have hg := encB_get (begs s) m hml
    have hx := begs_next s m hml
    have e3 : (begs s)[m] + lnN s m ≤ s.size := by
      have := hx.1
      rw [getD_el hml] at this
      rwa [lnN, getD_el hml]
    have e1 : (begs s).getD m 0 = (begs s)[m] := getD_el hml
    have e2 : endN s m = (begs s)[m] + lnN s m := by unfold endN; rw [e1]
    obtain ⟨dn, md, xs, ho⟩ := H.id
    rw [tabO_eq] at ho
    refine hgo_sound 60 ?_
    simp -implicitDefEqProofs (maxSteps := 1000000) only [simpS, ↓condJ_true, ↓condJ_false, ↓reduceIte, Nat.reduceEqDiff, Nat.reduceLT, Nat.reduceLeDiff, reduceCtorEq, Nat.reduceAdd, Nat.reduceSub, bindG_none, addG_none, hgrpK_none, nestK_none, hgrpK_guarded, Option.map_none, beq_self_eq_true, bne_self_eq_false, Option.map_some, if_true, if_false, List.getD_cons_zero, List.getD_cons_succ, List.length_cons, List.length_nil, List.mem_cons, List.not_mem_nil, List.mem_append, List.nil_append, List.cons_append, List.append_nil, List.take_succ_cons, List.take_zero, List.drop_succ_cons, List.drop_zero, List.set_cons_zero, List.set_cons_succ, List.map_cons, List.map_nil, implies_true, forall_const, ne_eq, hd2]
    refine hx_drawgo 1 ?_
    simp -implicitDefEqProofs (maxSteps := 3000000) only [drawS, List.map_cons, List.map_nil, List.getElem?_cons_zero, List.getElem?_cons_succ, List.getElem?_nil, simpS, ↓condJ_true, ↓condJ_false, ↓reduceIte, Nat.reduceEqDiff, Nat.reduceLT, Nat.reduceLeDiff, reduceCtorEq, Nat.reduceAdd, Nat.reduceSub, bindG_none, addG_none, hgrpK_none, nestK_none, hgrpK_guarded, Option.map_none, beq_self_eq_true, bne_self_eq_false, Option.map_some, if_true, if_false, List.getD_cons_zero, List.getD_cons_succ, List.length_cons, List.length_nil, List.mem_cons, List.not_mem_nil, List.mem_append, List.nil_append, List.cons_append, List.append_nil, List.take_succ_cons, List.take_zero, List.drop_succ_cons, List.drop_zero, List.set_cons_zero, List.set_cons_succ, List.map_cons, List.map_nil, implies_true, forall_const, ne_eq, hnt', ho, tbS_ob, tabO_eq, encB_length, hg, Int.toNat_natCast, Int.natCast_nonneg, hm]
    refine hd_call (i := 5) (f := .fn 21) (by simp -implicitDefEqProofs (maxSteps := 3000000) only [drawS, List.map_cons, List.map_nil, List.getElem?_cons_zero, List.getElem?_cons_succ, List.getElem?_nil, simpS, ↓condJ_true, ↓condJ_false, ↓reduceIte, Nat.reduceEqDiff, Nat.reduceLT, Nat.reduceLeDiff, reduceCtorEq, Nat.reduceAdd, Nat.reduceSub, bindG_none, addG_none, hgrpK_none, nestK_none, hgrpK_guarded, Option.map_none, beq_self_eq_true, bne_self_eq_false, Option.map_some, if_true, if_false, List.getD_cons_zero, List.getD_cons_succ, List.length_cons, List.length_nil, List.mem_cons, List.not_mem_nil, List.mem_append, List.nil_append, List.cons_append, List.append_nil, List.take_succ_cons, List.take_zero, List.drop_succ_cons, List.drop_zero, List.set_cons_zero, List.set_cons_succ, List.map_cons, List.map_nil, implies_true, forall_const, ne_eq, hnt', ho, tbS_ob, tabO_eq, encB_length, hg, Int.toNat_natCast, Int.natCast_nonneg, hm]) (by rfl) (by rfl) rfl (by rfl) (by rw [hP]; exact hcallD_func (begins_calls hs _ (tbS_tbP hne))) ?_
    rintro _ σ2 ⟨rfl, rfl⟩
    refine hdgo_sound 1 ?_
    simp -implicitDefEqProofs (maxSteps := 3000000) only [drawS, List.map_cons, List.map_nil, List.getElem?_cons_zero, List.getElem?_cons_succ, List.getElem?_nil, simpS, ↓condJ_true, ↓condJ_false, ↓reduceIte, Nat.reduceEqDiff, Nat.reduceLT, Nat.reduceLeDiff, reduceCtorEq, Nat.reduceAdd, Nat.reduceSub, bindG_none, addG_none, hgrpK_none, nestK_none, hgrpK_guarded, Option.map_none, beq_self_eq_true, bne_self_eq_false, Option.map_some, if_true, if_false, List.getD_cons_zero, List.getD_cons_succ, List.length_cons, List.length_nil, List.mem_cons, List.not_mem_nil, List.mem_append, List.nil_append, List.cons_append, List.append_nil, List.take_succ_cons, List.take_zero, List.drop_succ_cons, List.drop_zero, List.set_cons_zero, List.set_cons_succ, List.map_cons, List.map_nil, implies_true, forall_const, ne_eq, hnt', ho, tbS_ob, tabO_eq, encB_length, hg, Int.toNat_natCast, Int.natCast_nonneg, hm]
    rw [tbS_tbS hne]
    refine hd_call (i := 11) (f := .fn 22) (by simp -implicitDefEqProofs (maxSteps := 3000000) only [drawS, List.map_cons, List.map_nil, List.getElem?_cons_zero, List.getElem?_cons_succ, List.getElem?_nil, simpS, ↓condJ_true, ↓condJ_false, ↓reduceIte, Nat.reduceEqDiff, Nat.reduceLT, Nat.reduceLeDiff, reduceCtorEq, Nat.reduceAdd, Nat.reduceSub, bindG_none, addG_none, hgrpK_none, nestK_none, hgrpK_guarded, Option.map_none, beq_self_eq_true, bne_self_eq_false, Option.map_some, if_true, if_false, List.getD_cons_zero, List.getD_cons_succ, List.length_cons, List.length_nil, List.mem_cons, List.not_mem_nil, List.mem_append, List.nil_append, List.cons_append, List.append_nil, List.take_succ_cons, List.take_zero, List.drop_succ_cons, List.drop_zero, List.set_cons_zero, List.set_cons_succ, List.map_cons, List.map_nil, implies_true, forall_const, ne_eq, hnt', ho, tbS_ob, tabO_eq, encB_length, hg, Int.toNat_natCast, Int.natCast_nonneg, hm]) (by rfl) (by rfl) rfl (by rfl) (by rw [hP]; exact hcallD_func (end_calls hs hml _ (tbS_tbP hne))) ?_
    rintro _ σ2 ⟨rfl, rfl⟩
    refine hdgo_sound 1 ?_
    simp -implicitDefEqProofs (maxSteps := 3000000) only [drawS, List.map_cons, List.map_nil, List.getElem?_cons_zero, List.getElem?_cons_succ, List.getElem?_nil, simpS, ↓condJ_true, ↓condJ_false, ↓reduceIte, Nat.reduceEqDiff, Nat.reduceLT, Nat.reduceLeDiff, reduceCtorEq, Nat.reduceAdd, Nat.reduceSub, bindG_none, addG_none, hgrpK_none, nestK_none, hgrpK_guarded, Option.map_none, beq_self_eq_true, bne_self_eq_false, Option.map_some, if_true, if_false, List.getD_cons_zero, List.getD_cons_succ, List.length_cons, List.length_nil, List.mem_cons, List.not_mem_nil, List.mem_append, List.nil_append, List.cons_append, List.append_nil, List.take_succ_cons, List.take_zero, List.drop_succ_cons, List.drop_zero, List.set_cons_zero, List.set_cons_succ, List.map_cons, List.map_nil, implies_true, forall_const, ne_eq, hnt', ho, tbS_ob, tabO_eq, encB_length, hg, Int.toNat_natCast, Int.natCast_nonneg, hm]
    rw [tbS_tbS hne]
    refine ⟨⟨by omega, by omega⟩, hx_ret ?_⟩
    refine fpost_keep (.inr rfl) rfl trivial (fun _ => ⟨trivial, trivial, trivial⟩) fun hw => ⟨?_, rfl⟩
    have e4 : lnA s ((begs s)[m]) = s.extract (begs s)[m] ((begs s)[m] + lnN s m) := by unfold lnA lnN; rw [e1]
    rw [e1, e2, e4]
    rfl
  · have hd2 : decide (n ≥ ((begs s).length : Int)) = true := by simp; omega
    rw [if_neg (by omega)]
    refine hgo_sound 60 ?_
    simp -implicitDefEqProofs (maxSteps := 1000000) only [simpS, ↓condJ_true, ↓condJ_false, ↓reduceIte, Nat.reduceEqDiff, Nat.reduceLT, Nat.reduceLeDiff, reduceCtorEq, Nat.reduceAdd, Nat.reduceSub, bindG_none, addG_none, hgrpK_none, nestK_none, hgrpK_guarded, Option.map_none, beq_self_eq_true, bne_self_eq_false, Option.map_some, if_true, if_false, List.getD_cons_zero, List.getD_cons_succ, List.length_cons, List.length_nil, List.mem_cons, List.not_mem_nil, List.mem_append, List.nil_append, List.cons_append, List.append_nil, List.take_succ_cons, List.take_zero, List.drop_succ_cons, List.drop_zero, List.set_cons_zero, List.set_cons_succ, List.map_cons, List.map_nil, implies_true, forall_const, ne_eq, hd2]
    exact fpost_keep (.inr rfl) rfl trivial (by intro _; repeat' (first | trivial | apply And.intro)) (by intro hw; exact ⟨rfl, rfl⟩)

/-- What At tells. -/
def atD (s : ByteArray) (l c : Int) : List D :=
  if 0 ≤ l ∧ l < (begs s).length ∧ 0 ≤ c ∧ c ≤ lnN s l.toNat then [.int .i64 ((begs s).getD l.toNat 0 + c.toNat : Nat), .nili] else [.int .i64 0, erR]

theorem at_calls {id k : Nat} {s : ByteArray} (hs : s.size ≤ 1099511627776) {n c : Int} (h1 : -9223372036854775808 ≤ n) (h2 : n ≤ 9223372036854775807) (σ : St) (H : TbP σ id k s) : HCalls Try.prog 16 [.ptr id 0, .int .i64 n, .int .i64 c] σ (fun d σ' => d = .tuple (atD s n c) ∧ σ' = if n < 0 then σ else tbS σ id k s) := by
  refine hcalls_body (fn := Try.f16) rfl c16 (by simp [h16]) (by simp [h16, Try.f16]) ?_
  intro M hP hr hnt hnx hwf hlt
  simp only [h16, argEnv]
  have hnt' : M.nt = 36 := hnt
  have hne := H.1
  have hc := line_calls hs h1 h2 σ H
  unfold atD
  unfold lineD at hc
  by_cases hn : 0 ≤ n ∧ n < (begs s).length
  · obtain ⟨m, rfl⟩ : ∃ m : Nat, n = (m : Int) := ⟨n.toNat, by omega⟩
    have hml : m < (begs s).length := by omega
    have hg := encB_get (begs s) m hml
    have hx := begs_next s m hml
    have e1 : (begs s).getD m 0 = (begs s)[m] := getD_el hml
    have hz : ((lnA s ((begs s).getD m 0)).size : Int) = (lnN s m : Int) := by rw [lnA_size s m hml]
    have hlt := hn.2
    rw [if_pos hn, if_neg (by omega)] at hc
    rw [if_neg (show ¬ (m : Int) < 0 by omega)]
    simp only [Int.toNat_natCast] at hc ⊢
    refine hgo_sound 60 ?_
    simp -implicitDefEqProofs (maxSteps := 1000000) only [simpS, ↓condJ_true, ↓condJ_false, ↓reduceIte, Nat.reduceEqDiff, Nat.reduceLT, Nat.reduceLeDiff, reduceCtorEq, Nat.reduceAdd, Nat.reduceSub, bindG_none, addG_none, hgrpK_none, nestK_none, hgrpK_guarded, Option.map_none, beq_self_eq_true, bne_self_eq_false, Option.map_some, if_true, if_false, List.getD_cons_zero, List.getD_cons_succ, List.length_cons, List.length_nil, List.mem_cons, List.not_mem_nil, List.mem_append, List.nil_append, List.cons_append, List.append_nil, List.take_succ_cons, List.take_zero, List.drop_succ_cons, List.drop_zero, List.set_cons_zero, List.set_cons_succ, List.map_cons, List.map_nil, implies_true, forall_const, ne_eq]
    refine hx_call (f := .fn 11) rfl (by rw [hP]; exact hcallD_func (hc)) ?_
    rintro _ σ2 ⟨rfl, rfl⟩
    by_cases hcl : 0 ≤ c ∧ c ≤ lnN s m
    · have hd1 : decide (c < 0) = false := by simp; omega
      have hd2 : decide (c > (lnN s m : Int)) = false := by simp; omega
      have hw : IntKind.i64.wrap (((begs s)[m] : Int) + c) = (((begs s).getD m 0 + c.toNat : Nat) : Int) := by
        rw [e1, IntWalk.i64_in _ (by have := hx.1; rw [e1] at this; unfold lnN at hcl; rw [e1] at hcl; omega)]
        omega
      rw [if_pos ⟨hn.1, hn.2, hcl⟩]
      refine hgo_sound 60 ?_
      simp -implicitDefEqProofs (maxSteps := 1000000) only [simpS, ↓condJ_true, ↓condJ_false, ↓reduceIte, Nat.reduceEqDiff, Nat.reduceLT, Nat.reduceLeDiff, reduceCtorEq, Nat.reduceAdd, Nat.reduceSub, bindG_none, addG_none, hgrpK_none, nestK_none, hgrpK_guarded, Option.map_none, beq_self_eq_true, bne_self_eq_false, Option.map_some, if_true, if_false, List.getD_cons_zero, List.getD_cons_succ, List.length_cons, List.length_nil, List.mem_cons, List.not_mem_nil, List.mem_append, List.nil_append, List.cons_append, List.append_nil, List.take_succ_cons, List.take_zero, List.drop_succ_cons, List.drop_zero, List.set_cons_zero, List.set_cons_succ, List.map_cons, List.map_nil, implies_true, forall_const, ne_eq, hz, hd1, hd2]
      refine hx_call (f := .fn 21) rfl (by rw [hP]; exact hcallD_func (begins_calls hs _ (tbS_tbP hne))) ?_
      rintro _ σ2 ⟨rfl, rfl⟩
      rw [tbS_tbS hne]
      refine hgo_sound 60 ?_
      simp -implicitDefEqProofs (maxSteps := 1000000) only [simpS, ↓condJ_true, ↓condJ_false, ↓reduceIte, Nat.reduceEqDiff, Nat.reduceLT, Nat.reduceLeDiff, reduceCtorEq, Nat.reduceAdd, Nat.reduceSub, bindG_none, addG_none, hgrpK_none, nestK_none, hgrpK_guarded, Option.map_none, beq_self_eq_true, bne_self_eq_false, Option.map_some, if_true, if_false, List.getD_cons_zero, List.getD_cons_succ, List.length_cons, List.length_nil, List.mem_cons, List.not_mem_nil, List.mem_append, List.nil_append, List.cons_append, List.append_nil, List.take_succ_cons, List.take_zero, List.drop_succ_cons, List.drop_zero, List.set_cons_zero, List.set_cons_succ, List.map_cons, List.map_nil, implies_true, forall_const, ne_eq, encB_length, hg, hw, Int.toNat_natCast, Int.natCast_nonneg, hlt]
      exact fpost_keep (.inr rfl) rfl trivial (by intro _; repeat' (first | trivial | apply And.intro)) (by intro hw; exact ⟨rfl, rfl⟩)
    · rw [if_neg (by omega)]
      by_cases hc0 : c < 0
      · have hd1 : decide (c < 0) = true := by simp [hc0]
        refine hgo_sound 60 ?_
        simp -implicitDefEqProofs (maxSteps := 1000000) only [simpS, ↓condJ_true, ↓condJ_false, ↓reduceIte, Nat.reduceEqDiff, Nat.reduceLT, Nat.reduceLeDiff, reduceCtorEq, Nat.reduceAdd, Nat.reduceSub, bindG_none, addG_none, hgrpK_none, nestK_none, hgrpK_guarded, Option.map_none, beq_self_eq_true, bne_self_eq_false, Option.map_some, if_true, if_false, List.getD_cons_zero, List.getD_cons_succ, List.length_cons, List.length_nil, List.mem_cons, List.not_mem_nil, List.mem_append, List.nil_append, List.cons_append, List.append_nil, List.take_succ_cons, List.take_zero, List.drop_succ_cons, List.drop_zero, List.set_cons_zero, List.set_cons_succ, List.map_cons, List.map_nil, implies_true, forall_const, ne_eq, hz, hd1]
        exact fpost_keep (.inr rfl) rfl trivial (by intro _; repeat' (first | trivial | apply And.intro)) (by intro hw; exact ⟨rfl, rfl⟩)
      · have hd1 : decide (c < 0) = false := by simp [hc0]
        have hd2 : decide (c > (lnN s m : Int)) = true := by simp; omega
        refine hgo_sound 60 ?_
        simp -implicitDefEqProofs (maxSteps := 1000000) only [simpS, ↓condJ_true, ↓condJ_false, ↓reduceIte, Nat.reduceEqDiff, Nat.reduceLT, Nat.reduceLeDiff, reduceCtorEq, Nat.reduceAdd, Nat.reduceSub, bindG_none, addG_none, hgrpK_none, nestK_none, hgrpK_guarded, Option.map_none, beq_self_eq_true, bne_self_eq_false, Option.map_some, if_true, if_false, List.getD_cons_zero, List.getD_cons_succ, List.length_cons, List.length_nil, List.mem_cons, List.not_mem_nil, List.mem_append, List.nil_append, List.cons_append, List.append_nil, List.take_succ_cons, List.take_zero, List.drop_succ_cons, List.drop_zero, List.set_cons_zero, List.set_cons_succ, List.map_cons, List.map_nil, implies_true, forall_const, ne_eq, hz, hd1, hd2]
        exact fpost_keep (.inr rfl) rfl trivial (by intro _; repeat' (first | trivial | apply And.intro)) (by intro hw; exact ⟨rfl, rfl⟩)
  · rw [if_neg hn] at hc
    rw [if_neg (by omega)]
    refine hgo_sound 60 ?_
    simp -implicitDefEqProofs (maxSteps := 1000000) only [simpS, ↓condJ_true, ↓condJ_false, ↓reduceIte, Nat.reduceEqDiff, Nat.reduceLT, Nat.reduceLeDiff, reduceCtorEq, Nat.reduceAdd, Nat.reduceSub, bindG_none, addG_none, hgrpK_none, nestK_none, hgrpK_guarded, Option.map_none, beq_self_eq_true, bne_self_eq_false, Option.map_some, if_true, if_false, List.getD_cons_zero, List.getD_cons_succ, List.length_cons, List.length_nil, List.mem_cons, List.not_mem_nil, List.mem_append, List.nil_append, List.cons_append, List.append_nil, List.take_succ_cons, List.take_zero, List.drop_succ_cons, List.drop_zero, List.set_cons_zero, List.set_cons_succ, List.map_cons, List.map_nil, implies_true, forall_const, ne_eq]
    refine hx_call (f := .fn 11) rfl (by rw [hP]; exact hcallD_func (hc)) ?_
    rintro _ σ2 ⟨rfl, rfl⟩
    refine hgo_sound 60 ?_
    simp -implicitDefEqProofs (maxSteps := 1000000) only [simpS, ↓condJ_true, ↓condJ_false, ↓reduceIte, Nat.reduceEqDiff, Nat.reduceLT, Nat.reduceLeDiff, reduceCtorEq, Nat.reduceAdd, Nat.reduceSub, bindG_none, addG_none, hgrpK_none, nestK_none, hgrpK_guarded, Option.map_none, beq_self_eq_true, bne_self_eq_false, Option.map_some, if_true, if_false, List.getD_cons_zero, List.getD_cons_succ, List.length_cons, List.length_nil, List.mem_cons, List.not_mem_nil, List.mem_append, List.nil_append, List.cons_append, List.append_nil, List.take_succ_cons, List.take_zero, List.drop_succ_cons, List.drop_zero, List.set_cons_zero, List.set_cons_succ, List.map_cons, List.map_nil, implies_true, forall_const, ne_eq]
    exact fpost_keep (.inr rfl) rfl trivial (by intro _; repeat' (first | trivial | apply And.intro)) (by intro hw; exact ⟨rfl, rfl⟩)

/-- What Place tells. -/
def placeD (s : ByteArray) (a : Int) : List D :=
  if 0 ≤ a ∧ a ≤ s.size then [.int .i64 ((plP s a.toNat).1 : Nat), .int .i64 ((plP s a.toNat).2 : Nat), .nili] else [.int .i64 0, .int .i64 0, erR]

theorem place_calls {id k : Nat} {s : ByteArray} (hs : s.size ≤ 1099511627776) {a : Int} (σ : St) (H : TbP σ id k s) : HCalls Try.prog 14 [.ptr id 0, .int .i64 a] σ (fun d σ' => d = .tuple (placeD s a) ∧ σ' = if 0 ≤ a ∧ a ≤ s.size then tbS σ id k s else σ) := by
  refine hcalls_body (fn := Try.f14) rfl c14 (by simp [h14]) (by simp [h14, Try.f14]) ?_
  intro M hP hr hnt hnx hwf hlt
  simp only [h14, argEnv]
  have hnt' : M.nt = 45 := hnt
  have hl := begs_len s
  have hne := H.1
  obtain ⟨dn, md, xs, ho⟩ := H.id
  rw [tabO_eq] at ho
  unfold placeD
  by_cases hn : 0 ≤ a ∧ a ≤ s.size
  · obtain ⟨z, rfl⟩ : ∃ m : Nat, a = (m : Int) := ⟨a.toNat, by omega⟩
    have hd1 : decide ((z : Int) < 0) = false := by simp
    have hd2 : decide ((z : Int) > (s.size : Int)) = false := by simp; omega
    rw [if_pos hn, if_pos hn, Int.toNat_natCast]
    refine hgo_sound 60 ?_
    simp -implicitDefEqProofs (maxSteps := 1000000) only [simpS, ↓condJ_true, ↓condJ_false, ↓reduceIte, Nat.reduceEqDiff, Nat.reduceLT, Nat.reduceLeDiff, reduceCtorEq, Nat.reduceAdd, Nat.reduceSub, bindG_none, addG_none, hgrpK_none, nestK_none, hgrpK_guarded, Option.map_none, beq_self_eq_true, bne_self_eq_false, Option.map_some, if_true, if_false, List.getD_cons_zero, List.getD_cons_succ, List.length_cons, List.length_nil, List.mem_cons, List.not_mem_nil, List.mem_append, List.nil_append, List.cons_append, List.append_nil, List.take_succ_cons, List.take_zero, List.drop_succ_cons, List.drop_zero, List.set_cons_zero, List.set_cons_succ, List.map_cons, List.map_nil, implies_true, forall_const, ne_eq, hd1, hd2, ho]
    refine hx_call (f := .fn 21) rfl (by rw [hP]; exact hcallD_func (begins_calls hs σ H)) ?_
    rintro _ σ2 ⟨rfl, rfl⟩
    refine hgo_sound 60 ?_
    simp -implicitDefEqProofs (maxSteps := 1000000) only [simpS, ↓condJ_true, ↓condJ_false, ↓reduceIte, Nat.reduceEqDiff, Nat.reduceLT, Nat.reduceLeDiff, reduceCtorEq, Nat.reduceAdd, Nat.reduceSub, bindG_none, addG_none, hgrpK_none, nestK_none, hgrpK_guarded, Option.map_none, beq_self_eq_true, bne_self_eq_false, Option.map_some, if_true, if_false, List.getD_cons_zero, List.getD_cons_succ, List.length_cons, List.length_nil, List.mem_cons, List.not_mem_nil, List.mem_append, List.nil_append, List.cons_append, List.append_nil, List.take_succ_cons, List.take_zero, List.drop_succ_cons, List.drop_zero, List.set_cons_zero, List.set_cons_succ, List.map_cons, List.map_nil, implies_true, forall_const, ne_eq]
    refine hx_call (f := .fn 24) rfl (by rw [hP]; exact hcallD_func (binSearch_calls (begs s) (by omega) (begs_strict s) z _)) ?_
    rintro _ σ2 ⟨i, f, rfl, hb, h⟩
    subst σ2
    have key := bs_at hb
    have fin : ∀ (p : Nat) (hp : IsAt (begs s) p z), (encB (begs s)).getD p [] = [.int .i64 ((begs s)[p]'hp.lt : Int)] ∧ IntKind.i64.wrap ((z : Int) - ((begs s)[p]'hp.lt : Int)) = ((plP s z).2 : Int) ∧ (plP s z).1 = p ∧ (p : Int) < ((begs s).length : Int) := by
      intro p hp
      have e := plP_at (by omega) hp
      have h5 := hp.le
      rw [getD_el hp.lt] at h5 e
      refine ⟨encB_get _ _ hp.lt, ?_, by rw [e], by have := hp.lt; omega⟩
      rw [e, IntWalk.i64_in _ (by omega)]
      omega
    cases f
    · obtain ⟨hi, hp⟩ := key.2 rfl
      obtain ⟨f1, f2, f3, f4⟩ := fin _ hp
      have hw : IntKind.i64.wrap ((i : Int) - 1) = ((i - 1 : Nat) : Int) := by rw [IntWalk.i64_in _ (by have := hb.le; omega)]; omega
      refine hgo_sound 60 ?_
      simp -implicitDefEqProofs (maxSteps := 1000000) only [simpS, ↓condJ_true, ↓condJ_false, ↓reduceIte, Nat.reduceEqDiff, Nat.reduceLT, Nat.reduceLeDiff, reduceCtorEq, Nat.reduceAdd, Nat.reduceSub, bindG_none, addG_none, hgrpK_none, nestK_none, hgrpK_guarded, Option.map_none, beq_self_eq_true, bne_self_eq_false, Option.map_some, if_true, if_false, List.getD_cons_zero, List.getD_cons_succ, List.length_cons, List.length_nil, List.mem_cons, List.not_mem_nil, List.mem_append, List.nil_append, List.cons_append, List.append_nil, List.take_succ_cons, List.take_zero, List.drop_succ_cons, List.drop_zero, List.set_cons_zero, List.set_cons_succ, List.map_cons, List.map_nil, implies_true, forall_const, ne_eq]
      refine hx_drawgo 1 ?_
      simp -implicitDefEqProofs (maxSteps := 3000000) only [drawS, List.map_cons, List.map_nil, List.getElem?_cons_zero, List.getElem?_cons_succ, List.getElem?_nil, simpS, ↓condJ_true, ↓condJ_false, ↓reduceIte, Nat.reduceEqDiff, Nat.reduceLT, Nat.reduceLeDiff, reduceCtorEq, Nat.reduceAdd, Nat.reduceSub, bindG_none, addG_none, hgrpK_none, nestK_none, hgrpK_guarded, Option.map_none, beq_self_eq_true, bne_self_eq_false, Option.map_some, if_true, if_false, List.getD_cons_zero, List.getD_cons_succ, List.length_cons, List.length_nil, List.mem_cons, List.not_mem_nil, List.mem_append, List.nil_append, List.cons_append, List.append_nil, List.take_succ_cons, List.take_zero, List.drop_succ_cons, List.drop_zero, List.set_cons_zero, List.set_cons_succ, List.map_cons, List.map_nil, implies_true, forall_const, ne_eq, hnt', hw, f1, f2, f4, encB_length, Int.toNat_natCast, Int.natCast_nonneg]
      refine hgo_sound 60 ?_
      simp -implicitDefEqProofs (maxSteps := 1000000) only [simpS, ↓condJ_true, ↓condJ_false, ↓reduceIte, Nat.reduceEqDiff, Nat.reduceLT, Nat.reduceLeDiff, reduceCtorEq, Nat.reduceAdd, Nat.reduceSub, bindG_none, addG_none, hgrpK_none, nestK_none, hgrpK_guarded, Option.map_none, beq_self_eq_true, bne_self_eq_false, Option.map_some, if_true, if_false, List.getD_cons_zero, List.getD_cons_succ, List.length_cons, List.length_nil, List.mem_cons, List.not_mem_nil, List.mem_append, List.nil_append, List.cons_append, List.append_nil, List.take_succ_cons, List.take_zero, List.drop_succ_cons, List.drop_zero, List.set_cons_zero, List.set_cons_succ, List.map_cons, List.map_nil, implies_true, forall_const, ne_eq]
      exact fpost_keep (.inr rfl) rfl trivial (by intro _; repeat' (first | trivial | apply And.intro)) (by intro hw; exact ⟨by rw [f3]; rfl, rfl⟩)
    · have hp := key.1 rfl
      obtain ⟨f1, f2, f3, f4⟩ := fin _ hp
      refine hgo_sound 60 ?_
      simp -implicitDefEqProofs (maxSteps := 1000000) only [simpS, ↓condJ_true, ↓condJ_false, ↓reduceIte, Nat.reduceEqDiff, Nat.reduceLT, Nat.reduceLeDiff, reduceCtorEq, Nat.reduceAdd, Nat.reduceSub, bindG_none, addG_none, hgrpK_none, nestK_none, hgrpK_guarded, Option.map_none, beq_self_eq_true, bne_self_eq_false, Option.map_some, if_true, if_false, List.getD_cons_zero, List.getD_cons_succ, List.length_cons, List.length_nil, List.mem_cons, List.not_mem_nil, List.mem_append, List.nil_append, List.cons_append, List.append_nil, List.take_succ_cons, List.take_zero, List.drop_succ_cons, List.drop_zero, List.set_cons_zero, List.set_cons_succ, List.map_cons, List.map_nil, implies_true, forall_const, ne_eq]
      refine hx_drawgo 1 ?_
      simp -implicitDefEqProofs (maxSteps := 3000000) only [drawS, List.map_cons, List.map_nil, List.getElem?_cons_zero, List.getElem?_cons_succ, List.getElem?_nil, simpS, ↓condJ_true, ↓condJ_false, ↓reduceIte, Nat.reduceEqDiff, Nat.reduceLT, Nat.reduceLeDiff, reduceCtorEq, Nat.reduceAdd, Nat.reduceSub, bindG_none, addG_none, hgrpK_none, nestK_none, hgrpK_guarded, Option.map_none, beq_self_eq_true, bne_self_eq_false, Option.map_some, if_true, if_false, List.getD_cons_zero, List.getD_cons_succ, List.length_cons, List.length_nil, List.mem_cons, List.not_mem_nil, List.mem_append, List.nil_append, List.cons_append, List.append_nil, List.take_succ_cons, List.take_zero, List.drop_succ_cons, List.drop_zero, List.set_cons_zero, List.set_cons_succ, List.map_cons, List.map_nil, implies_true, forall_const, ne_eq, hnt', f1, f2, f4, encB_length, Int.toNat_natCast, Int.natCast_nonneg]
      refine hgo_sound 60 ?_
      simp -implicitDefEqProofs (maxSteps := 1000000) only [simpS, ↓condJ_true, ↓condJ_false, ↓reduceIte, Nat.reduceEqDiff, Nat.reduceLT, Nat.reduceLeDiff, reduceCtorEq, Nat.reduceAdd, Nat.reduceSub, bindG_none, addG_none, hgrpK_none, nestK_none, hgrpK_guarded, Option.map_none, beq_self_eq_true, bne_self_eq_false, Option.map_some, if_true, if_false, List.getD_cons_zero, List.getD_cons_succ, List.length_cons, List.length_nil, List.mem_cons, List.not_mem_nil, List.mem_append, List.nil_append, List.cons_append, List.append_nil, List.take_succ_cons, List.take_zero, List.drop_succ_cons, List.drop_zero, List.set_cons_zero, List.set_cons_succ, List.map_cons, List.map_nil, implies_true, forall_const, ne_eq]
      exact fpost_keep (.inr rfl) rfl trivial (by intro _; repeat' (first | trivial | apply And.intro)) (by intro hw; exact ⟨by rw [f3]; rfl, rfl⟩)
  · rw [if_neg hn, if_neg hn]
    by_cases hc0 : a < 0
    · have hd1 : decide (a < 0) = true := by simp [hc0]
      refine hgo_sound 60 ?_
      simp -implicitDefEqProofs (maxSteps := 1000000) only [simpS, ↓condJ_true, ↓condJ_false, ↓reduceIte, Nat.reduceEqDiff, Nat.reduceLT, Nat.reduceLeDiff, reduceCtorEq, Nat.reduceAdd, Nat.reduceSub, bindG_none, addG_none, hgrpK_none, nestK_none, hgrpK_guarded, Option.map_none, beq_self_eq_true, bne_self_eq_false, Option.map_some, if_true, if_false, List.getD_cons_zero, List.getD_cons_succ, List.length_cons, List.length_nil, List.mem_cons, List.not_mem_nil, List.mem_append, List.nil_append, List.cons_append, List.append_nil, List.take_succ_cons, List.take_zero, List.drop_succ_cons, List.drop_zero, List.set_cons_zero, List.set_cons_succ, List.map_cons, List.map_nil, implies_true, forall_const, ne_eq, hd1, ho]
      exact fpost_keep (.inr rfl) rfl trivial (by intro _; repeat' (first | trivial | apply And.intro)) (by intro hw; exact ⟨rfl, rfl⟩)
    · have hd1 : decide (a < 0) = false := by simp [hc0]
      have hd2 : decide (a > (s.size : Int)) = true := by simp; omega
      refine hgo_sound 60 ?_
      simp -implicitDefEqProofs (maxSteps := 1000000) only [simpS, ↓condJ_true, ↓condJ_false, ↓reduceIte, Nat.reduceEqDiff, Nat.reduceLT, Nat.reduceLeDiff, reduceCtorEq, Nat.reduceAdd, Nat.reduceSub, bindG_none, addG_none, hgrpK_none, nestK_none, hgrpK_guarded, Option.map_none, beq_self_eq_true, bne_self_eq_false, Option.map_some, if_true, if_false, List.getD_cons_zero, List.getD_cons_succ, List.length_cons, List.length_nil, List.mem_cons, List.not_mem_nil, List.mem_append, List.nil_append, List.cons_append, List.append_nil, List.take_succ_cons, List.take_zero, List.drop_succ_cons, List.drop_zero, List.set_cons_zero, List.set_cons_succ, List.map_cons, List.map_nil, implies_true, forall_const, ne_eq, hd1, hd2, ho]
      exact fpost_keep (.inr rfl) rfl trivial (by intro _; repeat' (first | trivial | apply And.intro)) (by intro hw; exact ⟨rfl, rfl⟩)

end Go.Hl
