/-
  Layer 6: the reference's token.
-/
import Derived.Test.YtijcddlahidhhaaGreatDoorLxB
import Derived.KernelRfl
set_option linter.unusedSectionVars false
set_option linter.unusedVariables false
set_option linter.unusedSimpArgs false
set_option maxRecDepth 100000

namespace Go.Hl
open Go Go.Proofs Go.RowKit

theorem byte_at1 (s : ByteArray) (j : Nat) (h : j < s.size) : s.data.getD j 0 = s.data.toList[j]'(by simpa using h) := by
  have h' : j < s.data.size := h
  rw [Array.getD_eq_getD_getElem?, Array.getElem?_eq_getElem h']
  simp
theorem drop_cons1 (s : ByteArray) (j : Nat) (h : j < s.size) : s.data.toList.drop j = s.data.getD j 0 :: s.data.toList.drop (j + 1) := by
  rw [byte_at1 s j h]
  exact List.drop_eq_getElem_cons (by simpa using h)
theorem drop_end (s : ByteArray) (j : Nat) (h : s.size ≤ j) : s.data.toList.drop j = [] := List.drop_eq_nil_of_le (by rw [len_list]; exact h)

theorem rinside_calls (b : UInt8) (σ : St) : HCalls Tryz.prog 56 [byD b] σ (fun d σ' => d = .bool (insP b) ∧ σ' = σ) := by
  refine hcalls_body (fn := Tryz.f56) rfl c56 (by simp [h56]) (by simp [h56, Tryz.f56]) ?_
  intro M hP hr hnt hnx hwf hlt
  simp only [h56, argEnv]
  have hnt' : M.nt = 9 := hnt
  refine hgo_sound 60 ?_
  simp -implicitDefEqProofs (maxSteps := 1000000) only [simpS, ↓condJ_true, ↓condJ_false, ↓reduceIte, Nat.reduceEqDiff, Nat.reduceLT, Nat.reduceLeDiff, reduceCtorEq, Nat.reduceAdd, Nat.reduceSub, bindG_none, addG_none, hgrpK_none, nestK_none, hgrpK_guarded, Option.map_none, beq_self_eq_true, bne_self_eq_false, Option.map_some, if_true, if_false, List.getD_cons_zero, List.getD_cons_succ, List.length_cons, List.length_nil, List.mem_cons, List.not_mem_nil, List.mem_append, List.nil_append, List.cons_append, List.append_nil, List.take_succ_cons, List.take_zero, List.drop_succ_cons, List.drop_zero, List.set_cons_zero, List.set_cons_succ, List.map_cons, List.map_nil, implies_true, forall_const, ne_eq]
  refine hx_call (f := .fn 70) rfl (by rw [hP]; exact hcallD_func (rLetter_calls b _)) ?_
  rintro _ σ2 ⟨rfl, h⟩
  subst σ2
  unfold insP
  cases h1 : isLet b
  · refine hgo_sound 60 ?_
    simp -implicitDefEqProofs (maxSteps := 1000000) only [simpS, ↓condJ_true, ↓condJ_false, ↓reduceIte, Nat.reduceEqDiff, Nat.reduceLT, Nat.reduceLeDiff, reduceCtorEq, Nat.reduceAdd, Nat.reduceSub, bindG_none, addG_none, hgrpK_none, nestK_none, hgrpK_guarded, Option.map_none, beq_self_eq_true, bne_self_eq_false, Option.map_some, if_true, if_false, List.getD_cons_zero, List.getD_cons_succ, List.length_cons, List.length_nil, List.mem_cons, List.not_mem_nil, List.mem_append, List.nil_append, List.cons_append, List.append_nil, List.take_succ_cons, List.take_zero, List.drop_succ_cons, List.drop_zero, List.set_cons_zero, List.set_cons_succ, List.map_cons, List.map_nil, implies_true, forall_const, ne_eq]
    refine hx_call (f := .fn 71) rfl (by rw [hP]; exact hcallD_func (rFigure_calls b _)) ?_
    rintro _ σ2 ⟨rfl, h⟩
    subst σ2
    refine hgo_sound 60 ?_
    simp -implicitDefEqProofs (maxSteps := 1000000) only [simpS, ↓condJ_true, ↓condJ_false, ↓reduceIte, Nat.reduceEqDiff, Nat.reduceLT, Nat.reduceLeDiff, reduceCtorEq, Nat.reduceAdd, Nat.reduceSub, bindG_none, addG_none, hgrpK_none, nestK_none, hgrpK_guarded, Option.map_none, beq_self_eq_true, bne_self_eq_false, Option.map_some, if_true, if_false, List.getD_cons_zero, List.getD_cons_succ, List.length_cons, List.length_nil, List.mem_cons, List.not_mem_nil, List.mem_append, List.nil_append, List.cons_append, List.append_nil, List.take_succ_cons, List.take_zero, List.drop_succ_cons, List.drop_zero, List.set_cons_zero, List.set_cons_succ, List.map_cons, List.map_nil, implies_true, forall_const, ne_eq]
    exact fpost_pure (σ0 := σ) (.inr rfl) (by rw [hnx]; exact Nat.le_refl _) hwf (by first | exact Sub.refl σ | exact (((Ext.refl _).new _).sub hwf)) rfl trivial (by repeat' (first | trivial | apply And.intro | exact encTk_lt _ _)) ⟨by simp [tupD, look], rfl⟩
  · refine hgo_sound 60 ?_
    simp -implicitDefEqProofs (maxSteps := 1000000) only [simpS, ↓condJ_true, ↓condJ_false, ↓reduceIte, Nat.reduceEqDiff, Nat.reduceLT, Nat.reduceLeDiff, reduceCtorEq, Nat.reduceAdd, Nat.reduceSub, bindG_none, addG_none, hgrpK_none, nestK_none, hgrpK_guarded, Option.map_none, beq_self_eq_true, bne_self_eq_false, Option.map_some, if_true, if_false, List.getD_cons_zero, List.getD_cons_succ, List.length_cons, List.length_nil, List.mem_cons, List.not_mem_nil, List.mem_append, List.nil_append, List.cons_append, List.append_nil, List.take_succ_cons, List.take_zero, List.drop_succ_cons, List.drop_zero, List.set_cons_zero, List.set_cons_succ, List.map_cons, List.map_nil, implies_true, forall_const, ne_eq]
    exact fpost_pure (σ0 := σ) (.inr rfl) (by rw [hnx]; exact Nat.le_refl _) hwf (by first | exact Sub.refl σ | exact (((Ext.refl _).new _).sub hwf)) rfl trivial (by repeat' (first | trivial | apply And.intro | exact encTk_lt _ _)) ⟨by simp [tupD, look], rfl⟩

theorem ext_pre (s t : ByteArray) (a : Nat) (h : a + t.size ≤ s.size) : decide (s.extract a (a + t.size) = t) = t.data.toList.isPrefixOf (s.data.toList.drop a) := by
  have e : (s.extract a (a + t.size)).data.toList = (s.data.toList.drop a).take t.data.toList.length := by
    rw [ByteArray.data_extract, len_list]
    simp [List.extract, List.drop_take]
  rw [Bool.eq_iff_iff, decide_eq_true_iff, List.isPrefixOf_iff_prefix, List.prefix_iff_eq_take, ← e]
  constructor
  · intro h; rw [h]
  · intro h
    apply ByteArray.ext
    apply Array.toList_inj.1
    exact h.symm

theorem has_calls (s t : ByteArray) (a : Nat) (ha : a ≤ 1099511627776) (h0 : 0 < t.size) (ht : t.size ≤ 1099511627776) (σ : St) : HCalls Tryz.prog 55 [.str s, .int .i64 (a : Int), .str t] σ (fun d σ' => d = .bool (t.data.toList.isPrefixOf (s.data.toList.drop a)) ∧ σ' = σ) := by
  refine hcalls_body (fn := Tryz.f55) rfl c55 (by simp [h55]) (by simp [h55, Tryz.f55]) ?_
  intro M hP hr hnt hnx hwf hlt
  simp only [h55, argEnv]
  have hw : IntKind.i64.wrap ((a : Int) + (t.size : Int)) = ((a + t.size : Nat) : Int) := by rw [IntWalk.i64_in _ (by omega)]; rfl
  by_cases h : a + t.size ≤ s.size
  · have hd : decide (((a + t.size : Nat) : Int) ≤ (s.size : Int)) = true := decide_eq_true (by omega)
    have h1 : (0 : Int) ≤ ((a + t.size : Nat) : Int) ∧ ((a + t.size : Nat) : Int) ≤ (s.size : Int) ∧ (a : Int) ≤ ((a + t.size : Nat) : Int) := by omega
    refine hgo_sound 60 ?_
    simp -implicitDefEqProofs (maxSteps := 1000000) only [simpS, ↓condJ_true, ↓condJ_false, ↓reduceIte, Nat.reduceEqDiff, Nat.reduceLT, Nat.reduceLeDiff, reduceCtorEq, Nat.reduceAdd, Nat.reduceSub, bindG_none, addG_none, hgrpK_none, nestK_none, hgrpK_guarded, Option.map_none, beq_self_eq_true, bne_self_eq_false, Option.map_some, if_true, if_false, List.getD_cons_zero, List.getD_cons_succ, List.length_cons, List.length_nil, List.mem_cons, List.not_mem_nil, List.mem_append, List.nil_append, List.cons_append, List.append_nil, List.take_succ_cons, List.take_zero, List.drop_succ_cons, List.drop_zero, List.set_cons_zero, List.set_cons_succ, List.map_cons, List.map_nil, implies_true, forall_const, ne_eq, hw, hd, h1.1, h1.2.1, h1.2.2, Int.toNat_natCast, Int.natCast_nonneg, ext_pre s t a h]
    exact fpost_pure (σ0 := σ) (.inr rfl) (by rw [hnx]; exact Nat.le_refl _) hwf (by first | exact Sub.refl σ | exact (((Ext.refl _).new _).sub hwf)) rfl trivial (by repeat' (first | trivial | apply And.intro | exact encTk_lt _ _)) ⟨rfl, rfl⟩
  · have hd : decide (((a + t.size : Nat) : Int) ≤ (s.size : Int)) = false := decide_eq_false (by omega)
    have hf : t.data.toList.isPrefixOf (s.data.toList.drop a) = false := by
      cases hc : t.data.toList.isPrefixOf (s.data.toList.drop a) with
      | false => rfl
      | true =>
        have := (List.isPrefixOf_iff_prefix.1 hc).length_le
        rw [List.length_drop, len_list, len_list] at this
        omega
    rw [hf]
    refine hgo_sound 60 ?_
    simp -implicitDefEqProofs (maxSteps := 1000000) only [simpS, ↓condJ_true, ↓condJ_false, ↓reduceIte, Nat.reduceEqDiff, Nat.reduceLT, Nat.reduceLeDiff, reduceCtorEq, Nat.reduceAdd, Nat.reduceSub, bindG_none, addG_none, hgrpK_none, nestK_none, hgrpK_guarded, Option.map_none, beq_self_eq_true, bne_self_eq_false, Option.map_some, if_true, if_false, List.getD_cons_zero, List.getD_cons_succ, List.length_cons, List.length_nil, List.mem_cons, List.not_mem_nil, List.mem_append, List.nil_append, List.cons_append, List.append_nil, List.take_succ_cons, List.take_zero, List.drop_succ_cons, List.drop_zero, List.set_cons_zero, List.set_cons_succ, List.map_cons, List.map_nil, implies_true, forall_const, ne_eq, hw, hd]
    exact fpost_pure (σ0 := σ) (.inr rfl) (by rw [hnx]; exact Nat.le_refl _) hwf (by first | exact Sub.refl σ | exact (((Ext.refl _).new _).sub hwf)) rfl trivial (by repeat' (first | trivial | apply And.intro | exact encTk_lt _ _)) ⟨rfl, rfl⟩

def rnC : HC := tlC (tlC (tlC (tlC (tlC (tlC (tlC (tlC h45.body)))))))
structure RnI where
  i : Nat

theorem rn_fin {M : Md} {σ : St} (hnx : M.gS.next = σ.next) (hwf : σ.wf) {e : Env} {σ' : St} (he : Ext σ σ') (h4 : look e 4 = .ptr σ.next 0) {x y : Tk3} (ho : σ'.obj σ.next = some (.bx none (encK3 x))) (hxy : x = y) :
    FPost M.gS.next [HR.cell 4 (some 3)] (fun d σ' => d = .agg (encK3 y) ∧ σ' = σ) .ret e σ' := by
  subst hxy
  exact fpost_pure (σ0 := σ) (.inr rfl) (by rw [hnx]; exact Nat.le_refl _) hwf (he.sub hwf) (ds := [.agg (encK3 x)]) (resD_cellS h4 ho rfl resD_nil) ⟨Nat.le_refl _, trivial⟩ ⟨trivial, trivial, trivial, trivial⟩ ⟨rfl, rfl⟩

def notNl (b : UInt8) : Bool := decide (b ≠ 10)
theorem notNl_eq (b : UInt8) : notNl b = ((b.toNat : Int) != 10) := by
  unfold notNl
  by_cases h : b = 10
  · subst h; rfl
  · have : b.toNat ≠ 10 := fun e => h (UInt8.toNat_inj.1 e)
    have h2 : ((b.toNat : Int) != 10) = true := by simp only [bne_iff_ne, ne_eq]; omega
    rw [h2]
    exact decide_eq_true h
theorem lenTo_run : ∀ l : List UInt8, lenTo l = runTo notNl l
  | [] => rfl
  | b :: r => by
    simp only [lenTo, runTo, notNl]
    rw [lenTo_run r]
    by_cases h : b = 10
    · simp [h]
    · simp [h, notNl]

theorem sgl_mem (c : UInt8) : sgl c = decide (c ∈ sgnL) := by
  have h : ∀ l : List UInt8, decide (Lib.indexByte l c ≥ 0) = decide (c ∈ l) := by
    intro l
    induction l with
    | nil => simp [Lib.indexByte]
    | cons b r ih =>
      simp only [Lib.indexByte]
      by_cases hb : (b == c) = true
      · have : b = c := by simpa using hb
        simp [this]
      · have hb' : (b == c) = false := by simpa using hb
        have hne : ¬ c = b := fun e => by simp [e] at hb
        simp only [hb', Bool.false_eq_true, if_false, List.mem_cons, hne, false_or]
        rw [← ih]
        by_cases h1 : (Lib.indexByte r c == -1) = true
        · have : Lib.indexByte r c = -1 := by simpa using h1
          simp [this]
        · have h1' : (Lib.indexByte r c == -1) = false := by simpa using h1
          rw [h1']
          have h2 : Lib.indexByte r c ≠ -1 := by simpa using h1
          have h3 := Lib.indexByte_ge r c
          simp only [Bool.false_eq_true, if_false]
          congr 1
          apply propext
          omega
  exact h sgnL
theorem numB_E (s : ByteArray) : numB s = decide (numE s = 0) := by
  unfold numB numE
  cases rNumD s <;> rfl
theorem ex_mid (s : ByteArray) (a n : Nat) : s.extract a (a + n) = bsL ((s.data.toList.drop a).take n) := by
  apply ByteArray.ext
  apply Array.toList_inj.1
  rw [ByteArray.data_extract]
  simp [List.extract]

abbrev rnPost (M : Md) (s : ByteArray) (a : Nat) (σ : St) : HPost := FPost M.gS.next [HR.cell 4 (some 3)] (fun d σ' => d = .agg (encK3 ⟨(lexN (s.data.toList.drop a)).1, a, a + (lexN (s.data.toList.drop a)).2⟩) ∧ σ' = σ)
def rnWE (s : ByteArray) (a : Nat) (σ : St) : Env := [(0, .str s), (1, .int .i64 (a : Int)), (4, .ptr σ.next 0), (5, byD (s.data.getD a 0)), (6, .int .i64 (a : Int))]

set_option maxHeartbeats 4000000 in
theorem rnW_ok (s : ByteArray) (a : Nat) (ha : a < s.size) (hs : s.size ≤ 1073741824) (σ : St) (M : Md) (hP : M.P = Tryz.prog) (hr : M.r = none) (hnt : M.nt = h45.nt) (hnx : M.gS.next = σ.next) (hwf : σ.wf)
    (hb : isBlk (s.data.getD a 0) = false) (h1 : ([47, 47] : List UInt8).isPrefixOf (s.data.toList.drop a) = false) (h2 : ([47, 42] : List UInt8).isPrefixOf (s.data.toList.drop a) = false) (h3 : prnd (s.data.toList.drop a) = false) :
    HX M (rnPost M s a σ) [.code rnC] (rnWE s a σ) (σ.new (.bx none [.int .i64 0, .int .i64 0, .int .i64 0])) := by
  have hh : (s.data.toList.drop a).headD 0 = s.data.getD a 0 := by rw [drop_cons1 s a ha]; rfl
  have ha' : (a : Int) < (s.size : Int) := by omega
  simp only [rnC, h45, tlC, rnWE]
  refine hgo_sound 60 ?_
  simp -implicitDefEqProofs (maxSteps := 1000000) only [simpS, ↓condJ_true, ↓condJ_false, ↓reduceIte, Nat.reduceEqDiff, Nat.reduceLT, Nat.reduceLeDiff, reduceCtorEq, Nat.reduceAdd, Nat.reduceSub, bindG_none, addG_none, hgrpK_none, nestK_none, hgrpK_guarded, Option.map_none, beq_self_eq_true, bne_self_eq_false, Option.map_some, if_true, if_false, List.getD_cons_zero, List.getD_cons_succ, List.length_cons, List.length_nil, List.mem_cons, List.not_mem_nil, List.mem_append, List.nil_append, List.cons_append, List.append_nil, List.take_succ_cons, List.take_zero, List.drop_succ_cons, List.drop_zero, List.set_cons_zero, List.set_cons_succ, List.map_cons, List.map_nil, implies_true, forall_const, ne_eq]
  refine hx_call (f := .fn 56) rfl (by rw [hP]; exact hcallD_func (rinside_calls _ _)) ?_
  rintro _ σ2 ⟨rfl, h⟩
  subst σ2
  cases h4 : insP (s.data.getD a 0)
  case true =>
    have hL : lexN (s.data.toList.drop a) = (wordK (bsL ((s.data.toList.drop a).take (runTo insP (s.data.toList.drop a)))), runTo insP (s.data.toList.drop a)) := by unfold lexN; rw [hh, hb, h1, h2, h3, h4]; rfl
    refine hgo_sound 60 ?_
    simp -implicitDefEqProofs (maxSteps := 1000000) only [simpS, ↓condJ_true, ↓condJ_false, ↓reduceIte, Nat.reduceEqDiff, Nat.reduceLT, Nat.reduceLeDiff, reduceCtorEq, Nat.reduceAdd, Nat.reduceSub, bindG_none, addG_none, hgrpK_none, nestK_none, hgrpK_guarded, Option.map_none, beq_self_eq_true, bne_self_eq_false, Option.map_some, if_true, if_false, List.getD_cons_zero, List.getD_cons_succ, List.length_cons, List.length_nil, List.mem_cons, List.not_mem_nil, List.mem_append, List.nil_append, List.cons_append, List.append_nil, List.take_succ_cons, List.take_zero, List.drop_succ_cons, List.drop_zero, List.set_cons_zero, List.set_cons_succ, List.map_cons, List.map_nil, implies_true, forall_const, ne_eq]
    refine hx_know_code fun hw hl hn => ?_
    refine hx_loop (S := RnI) (fun t => [(0, .str s), (1, .int .i64 (a : Int)), (4, .ptr σ.next 0), (6, .int .i64 (t.i : Int))]) (fun t => σ.new (.bx none [.int .i64 0, .int .i64 0, .int .i64 0]))
      (fun t => a ≤ t.i ∧ t.i ≤ s.size ∧ runTo insP (s.data.toList.drop a) = t.i - a + runTo insP (s.data.toList.drop t.i)) (fun t => s.size - t.i) ⟨a⟩
      ⟨Nat.le_refl _, by simp only; omega, by simp only; omega⟩ (fun _ _ h => by rw [hr] at h; cases h) ?_ ?_
    · exact Drop.all hw hn ⟨⟨rfl, trivial⟩, ⟨rfl, trivial⟩, ⟨rfl, hl 4⟩, ⟨rfl, trivial⟩, trivial⟩
    rintro ⟨i⟩ ⟨i1, i2, i3⟩
    simp only at i1 i2 i3 ⊢
    by_cases hi : i < s.size
    · have hd : decide ((i : Int) < (s.size : Int)) = true := decide_eq_true (by omega)
      have hi' : (i : Int) < (s.size : Int) := by omega
      have hw2 : IntKind.i64.wrap ((i : Int) + 1) = ((i + 1 : Nat) : Int) := by rw [IntWalk.i64_in _ (by omega)]; rfl
      rw [drop_cons1 s i hi] at i3
      refine hgo_sound 60 ?_
      simp -implicitDefEqProofs (maxSteps := 1000000) only [simpS, ↓condJ_true, ↓condJ_false, ↓reduceIte, Nat.reduceEqDiff, Nat.reduceLT, Nat.reduceLeDiff, reduceCtorEq, Nat.reduceAdd, Nat.reduceSub, bindG_none, addG_none, hgrpK_none, nestK_none, hgrpK_guarded, Option.map_none, beq_self_eq_true, bne_self_eq_false, Option.map_some, if_true, if_false, List.getD_cons_zero, List.getD_cons_succ, List.length_cons, List.length_nil, List.mem_cons, List.not_mem_nil, List.mem_append, List.nil_append, List.cons_append, List.append_nil, List.take_succ_cons, List.take_zero, List.drop_succ_cons, List.drop_zero, List.set_cons_zero, List.set_cons_succ, List.map_cons, List.map_nil, implies_true, forall_const, ne_eq, hd, hi', Int.toNat_natCast, Int.natCast_nonneg]
      refine hx_call (f := .fn 56) rfl (by rw [hP]; exact hcallD_func (rinside_calls _ _)) ?_
      rintro _ σ2 ⟨rfl, h⟩
      subst σ2
      cases hp : insP (s.data.getD i 0)
      · simp only [runTo, hp, Bool.false_eq_true, if_false] at i3
        have hi2 : i = a + runTo insP (s.data.toList.drop a) := by omega
        have hex := ex_mid s a (runTo insP (s.data.toList.drop a))
        rw [← hi2] at hex
        have hsl : (0 : Int) ≤ (i : Int) ∧ (i : Int) ≤ (s.size : Int) ∧ (0 : Int) ≤ (a : Int) ∧ (a : Int) ≤ (i : Int) := by omega
        have hws : (bsL ((s.data.toList.drop a).take (runTo insP (s.data.toList.drop a)))).size ≤ 1073741824 := by rw [← hex, ByteArray.size_extract]; omega
        generalize hW : bsL ((s.data.toList.drop a).take (runTo insP (s.data.toList.drop a))) = W at *
        refine hgo_sound 60 ?_
        simp -implicitDefEqProofs (maxSteps := 1000000) only [simpS, ↓condJ_true, ↓condJ_false, ↓reduceIte, Nat.reduceEqDiff, Nat.reduceLT, Nat.reduceLeDiff, reduceCtorEq, Nat.reduceAdd, Nat.reduceSub, bindG_none, addG_none, hgrpK_none, nestK_none, hgrpK_guarded, Option.map_none, beq_self_eq_true, bne_self_eq_false, Option.map_some, if_true, if_false, List.getD_cons_zero, List.getD_cons_succ, List.length_cons, List.length_nil, List.mem_cons, List.not_mem_nil, List.mem_append, List.nil_append, List.cons_append, List.append_nil, List.take_succ_cons, List.take_zero, List.drop_succ_cons, List.drop_zero, List.set_cons_zero, List.set_cons_succ, List.map_cons, List.map_nil, implies_true, forall_const, ne_eq, hsl.1, hsl.2.1, hsl.2.2.1, hsl.2.2.2, Int.toNat_natCast, hex]
        refine hx_call (f := .fn 57) rfl (by rw [hP]; exact hcallD_func (rnumber_calls W (by omega) _)) ?_
        rintro _ σ2 ⟨rfl, h⟩
        subst σ2
        cases hn1 : numB W
        · have hE : ¬ numE W = 0 := by
            rw [numB_E] at hn1
            exact of_decide_eq_false hn1
          refine hgo_sound 60 ?_
          simp -implicitDefEqProofs (maxSteps := 1000000) only [simpS, ↓condJ_true, ↓condJ_false, ↓reduceIte, Nat.reduceEqDiff, Nat.reduceLT, Nat.reduceLeDiff, reduceCtorEq, Nat.reduceAdd, Nat.reduceSub, bindG_none, addG_none, hgrpK_none, nestK_none, hgrpK_guarded, Option.map_none, beq_self_eq_true, bne_self_eq_false, Option.map_some, if_true, if_false, List.getD_cons_zero, List.getD_cons_succ, List.length_cons, List.length_nil, List.mem_cons, List.not_mem_nil, List.mem_append, List.nil_append, List.cons_append, List.append_nil, List.take_succ_cons, List.take_zero, List.drop_succ_cons, List.drop_zero, List.set_cons_zero, List.set_cons_succ, List.map_cons, List.map_nil, implies_true, forall_const, ne_eq]
          refine hx_call (f := .fn 58) rfl (by rw [hP]; exact hcallD_func (rname_calls W (by omega) _)) ?_
          rintro _ σ2 ⟨rfl, h⟩
          subst σ2
          cases hw1 : isWord W <;> cases hk1 : isKw W <;> simp only [Bool.and_true, Bool.true_and, Bool.not_true, Bool.not_false, Bool.and_false, Bool.false_and]
          all_goals
            refine hgo_sound 60 ?_
            simp -implicitDefEqProofs (maxSteps := 1000000) only [simpS, ↓condJ_true, ↓condJ_false, ↓reduceIte, Nat.reduceEqDiff, Nat.reduceLT, Nat.reduceLeDiff, reduceCtorEq, Nat.reduceAdd, Nat.reduceSub, bindG_none, addG_none, hgrpK_none, nestK_none, hgrpK_guarded, Option.map_none, beq_self_eq_true, bne_self_eq_false, Option.map_some, if_true, if_false, List.getD_cons_zero, List.getD_cons_succ, List.length_cons, List.length_nil, List.mem_cons, List.not_mem_nil, List.mem_append, List.nil_append, List.cons_append, List.append_nil, List.take_succ_cons, List.take_zero, List.drop_succ_cons, List.drop_zero, List.set_cons_zero, List.set_cons_succ, List.map_cons, List.map_nil, implies_true, forall_const, ne_eq]
            refine hx_call (f := .fn 59) rfl (by rw [hP]; exact hcallD_func (rkeyword_calls W _)) ?_
            rintro _ σ2 ⟨rfl, h⟩
            subst σ2
            rw [hk1]
            refine hgo_sound 60 ?_
            simp -implicitDefEqProofs (maxSteps := 1000000) only [simpS, ↓condJ_true, ↓condJ_false, ↓reduceIte, Nat.reduceEqDiff, Nat.reduceLT, Nat.reduceLeDiff, reduceCtorEq, Nat.reduceAdd, Nat.reduceSub, bindG_none, addG_none, hgrpK_none, nestK_none, hgrpK_guarded, Option.map_none, beq_self_eq_true, bne_self_eq_false, Option.map_some, if_true, if_false, List.getD_cons_zero, List.getD_cons_succ, List.length_cons, List.length_nil, List.mem_cons, List.not_mem_nil, List.mem_append, List.nil_append, List.cons_append, List.append_nil, List.take_succ_cons, List.take_zero, List.drop_succ_cons, List.drop_zero, List.set_cons_zero, List.set_cons_succ, List.map_cons, List.map_nil, implies_true, forall_const, ne_eq]
            exact rn_fin hnx hwf ((Ext.refl σ).new _) rfl (x := ⟨wordK W, a, i⟩) (by simp only [St.obj_new, if_true, wordK, hk1, hw1, hE, Bool.false_eq_true, if_false]; rfl) (by rw [hL]; simp only [Tk3.mk.injEq, true_and]; omega)
        · have hE : numE W = 0 := by
            rw [numB_E] at hn1
            exact of_decide_eq_true hn1
          refine hgo_sound 60 ?_
          simp -implicitDefEqProofs (maxSteps := 1000000) only [simpS, ↓condJ_true, ↓condJ_false, ↓reduceIte, Nat.reduceEqDiff, Nat.reduceLT, Nat.reduceLeDiff, reduceCtorEq, Nat.reduceAdd, Nat.reduceSub, bindG_none, addG_none, hgrpK_none, nestK_none, hgrpK_guarded, Option.map_none, beq_self_eq_true, bne_self_eq_false, Option.map_some, if_true, if_false, List.getD_cons_zero, List.getD_cons_succ, List.length_cons, List.length_nil, List.mem_cons, List.not_mem_nil, List.mem_append, List.nil_append, List.cons_append, List.append_nil, List.take_succ_cons, List.take_zero, List.drop_succ_cons, List.drop_zero, List.set_cons_zero, List.set_cons_succ, List.map_cons, List.map_nil, implies_true, forall_const, ne_eq]
          refine hx_call (f := .fn 58) rfl (by rw [hP]; exact hcallD_func (rname_calls W (by omega) _)) ?_
          rintro _ σ2 ⟨rfl, h⟩
          subst σ2
          cases hw1 : isWord W <;> cases hk1 : isKw W <;> simp only [Bool.and_true, Bool.true_and, Bool.not_true, Bool.not_false, Bool.and_false, Bool.false_and]
          all_goals
            refine hgo_sound 60 ?_
            simp -implicitDefEqProofs (maxSteps := 1000000) only [simpS, ↓condJ_true, ↓condJ_false, ↓reduceIte, Nat.reduceEqDiff, Nat.reduceLT, Nat.reduceLeDiff, reduceCtorEq, Nat.reduceAdd, Nat.reduceSub, bindG_none, addG_none, hgrpK_none, nestK_none, hgrpK_guarded, Option.map_none, beq_self_eq_true, bne_self_eq_false, Option.map_some, if_true, if_false, List.getD_cons_zero, List.getD_cons_succ, List.length_cons, List.length_nil, List.mem_cons, List.not_mem_nil, List.mem_append, List.nil_append, List.cons_append, List.append_nil, List.take_succ_cons, List.take_zero, List.drop_succ_cons, List.drop_zero, List.set_cons_zero, List.set_cons_succ, List.map_cons, List.map_nil, implies_true, forall_const, ne_eq]
            refine hx_call (f := .fn 59) rfl (by rw [hP]; exact hcallD_func (rkeyword_calls W _)) ?_
            rintro _ σ2 ⟨rfl, h⟩
            subst σ2
            rw [hk1]
            refine hgo_sound 60 ?_
            simp -implicitDefEqProofs (maxSteps := 1000000) only [simpS, ↓condJ_true, ↓condJ_false, ↓reduceIte, Nat.reduceEqDiff, Nat.reduceLT, Nat.reduceLeDiff, reduceCtorEq, Nat.reduceAdd, Nat.reduceSub, bindG_none, addG_none, hgrpK_none, nestK_none, hgrpK_guarded, Option.map_none, beq_self_eq_true, bne_self_eq_false, Option.map_some, if_true, if_false, List.getD_cons_zero, List.getD_cons_succ, List.length_cons, List.length_nil, List.mem_cons, List.not_mem_nil, List.mem_append, List.nil_append, List.cons_append, List.append_nil, List.take_succ_cons, List.take_zero, List.drop_succ_cons, List.drop_zero, List.set_cons_zero, List.set_cons_succ, List.map_cons, List.map_nil, implies_true, forall_const, ne_eq]
            exact rn_fin hnx hwf ((Ext.refl σ).new _) rfl (x := ⟨wordK W, a, i⟩) (by simp only [St.obj_new, if_true, wordK, hk1, hw1, hE, Bool.false_eq_true, if_false]; rfl) (by rw [hL]; simp only [Tk3.mk.injEq, true_and]; omega)
      · simp only [runTo, hp, if_true] at i3
        refine hgo_sound 60 ?_
        simp -implicitDefEqProofs (maxSteps := 1000000) only [simpS, ↓condJ_true, ↓condJ_false, ↓reduceIte, Nat.reduceEqDiff, Nat.reduceLT, Nat.reduceLeDiff, reduceCtorEq, Nat.reduceAdd, Nat.reduceSub, bindG_none, addG_none, hgrpK_none, nestK_none, hgrpK_guarded, Option.map_none, beq_self_eq_true, bne_self_eq_false, Option.map_some, if_true, if_false, List.getD_cons_zero, List.getD_cons_succ, List.length_cons, List.length_nil, List.mem_cons, List.not_mem_nil, List.mem_append, List.nil_append, List.cons_append, List.append_nil, List.take_succ_cons, List.take_zero, List.drop_succ_cons, List.drop_zero, List.set_cons_zero, List.set_cons_succ, List.map_cons, List.map_nil, implies_true, forall_const, ne_eq, hw2]
        intro hw5 hl5 hn5
        refine ⟨⟨i + 1⟩, ⟨by simp only; omega, by simp only; omega, by simp only; omega⟩, by simp only; omega, Drop.all hw5 hn5 ⟨⟨rfl, trivial⟩, ⟨rfl, trivial⟩, ⟨rfl, hl5 4⟩, ⟨rfl, trivial⟩, trivial⟩⟩
    · have hd : decide ((i : Int) < (s.size : Int)) = false := decide_eq_false (by omega)
      rw [drop_end s i (by omega)] at i3
      simp only [runTo] at i3
      have hi2 : i = a + runTo insP (s.data.toList.drop a) := by omega
      have hex := ex_mid s a (runTo insP (s.data.toList.drop a))
      rw [← hi2] at hex
      have hsl : (0 : Int) ≤ (i : Int) ∧ (i : Int) ≤ (s.size : Int) ∧ (0 : Int) ≤ (a : Int) ∧ (a : Int) ≤ (i : Int) := by omega
      have hws : (bsL ((s.data.toList.drop a).take (runTo insP (s.data.toList.drop a)))).size ≤ 1073741824 := by rw [← hex, ByteArray.size_extract]; omega
      generalize hW : bsL ((s.data.toList.drop a).take (runTo insP (s.data.toList.drop a))) = W at *
      refine hgo_sound 60 ?_
      simp -implicitDefEqProofs (maxSteps := 1000000) only [simpS, ↓condJ_true, ↓condJ_false, ↓reduceIte, Nat.reduceEqDiff, Nat.reduceLT, Nat.reduceLeDiff, reduceCtorEq, Nat.reduceAdd, Nat.reduceSub, bindG_none, addG_none, hgrpK_none, nestK_none, hgrpK_guarded, Option.map_none, beq_self_eq_true, bne_self_eq_false, Option.map_some, if_true, if_false, List.getD_cons_zero, List.getD_cons_succ, List.length_cons, List.length_nil, List.mem_cons, List.not_mem_nil, List.mem_append, List.nil_append, List.cons_append, List.append_nil, List.take_succ_cons, List.take_zero, List.drop_succ_cons, List.drop_zero, List.set_cons_zero, List.set_cons_succ, List.map_cons, List.map_nil, implies_true, forall_const, ne_eq, hd, hsl.1, hsl.2.1, hsl.2.2.1, hsl.2.2.2, Int.toNat_natCast, hex]
      refine hx_call (f := .fn 57) rfl (by rw [hP]; exact hcallD_func (rnumber_calls W (by omega) _)) ?_
      rintro _ σ2 ⟨rfl, h⟩
      subst σ2
      cases hn1 : numB W
      · have hE : ¬ numE W = 0 := by
          rw [numB_E] at hn1
          exact of_decide_eq_false hn1
        refine hgo_sound 60 ?_
        simp -implicitDefEqProofs (maxSteps := 1000000) only [simpS, ↓condJ_true, ↓condJ_false, ↓reduceIte, Nat.reduceEqDiff, Nat.reduceLT, Nat.reduceLeDiff, reduceCtorEq, Nat.reduceAdd, Nat.reduceSub, bindG_none, addG_none, hgrpK_none, nestK_none, hgrpK_guarded, Option.map_none, beq_self_eq_true, bne_self_eq_false, Option.map_some, if_true, if_false, List.getD_cons_zero, List.getD_cons_succ, List.length_cons, List.length_nil, List.mem_cons, List.not_mem_nil, List.mem_append, List.nil_append, List.cons_append, List.append_nil, List.take_succ_cons, List.take_zero, List.drop_succ_cons, List.drop_zero, List.set_cons_zero, List.set_cons_succ, List.map_cons, List.map_nil, implies_true, forall_const, ne_eq]
        refine hx_call (f := .fn 58) rfl (by rw [hP]; exact hcallD_func (rname_calls W (by omega) _)) ?_
        rintro _ σ2 ⟨rfl, h⟩
        subst σ2
        cases hw1 : isWord W <;> cases hk1 : isKw W <;> simp only [Bool.and_true, Bool.true_and, Bool.not_true, Bool.not_false, Bool.and_false, Bool.false_and]
        all_goals
          refine hgo_sound 60 ?_
          simp -implicitDefEqProofs (maxSteps := 1000000) only [simpS, ↓condJ_true, ↓condJ_false, ↓reduceIte, Nat.reduceEqDiff, Nat.reduceLT, Nat.reduceLeDiff, reduceCtorEq, Nat.reduceAdd, Nat.reduceSub, bindG_none, addG_none, hgrpK_none, nestK_none, hgrpK_guarded, Option.map_none, beq_self_eq_true, bne_self_eq_false, Option.map_some, if_true, if_false, List.getD_cons_zero, List.getD_cons_succ, List.length_cons, List.length_nil, List.mem_cons, List.not_mem_nil, List.mem_append, List.nil_append, List.cons_append, List.append_nil, List.take_succ_cons, List.take_zero, List.drop_succ_cons, List.drop_zero, List.set_cons_zero, List.set_cons_succ, List.map_cons, List.map_nil, implies_true, forall_const, ne_eq]
          refine hx_call (f := .fn 59) rfl (by rw [hP]; exact hcallD_func (rkeyword_calls W _)) ?_
          rintro _ σ2 ⟨rfl, h⟩
          subst σ2
          rw [hk1]
          refine hgo_sound 60 ?_
          simp -implicitDefEqProofs (maxSteps := 1000000) only [simpS, ↓condJ_true, ↓condJ_false, ↓reduceIte, Nat.reduceEqDiff, Nat.reduceLT, Nat.reduceLeDiff, reduceCtorEq, Nat.reduceAdd, Nat.reduceSub, bindG_none, addG_none, hgrpK_none, nestK_none, hgrpK_guarded, Option.map_none, beq_self_eq_true, bne_self_eq_false, Option.map_some, if_true, if_false, List.getD_cons_zero, List.getD_cons_succ, List.length_cons, List.length_nil, List.mem_cons, List.not_mem_nil, List.mem_append, List.nil_append, List.cons_append, List.append_nil, List.take_succ_cons, List.take_zero, List.drop_succ_cons, List.drop_zero, List.set_cons_zero, List.set_cons_succ, List.map_cons, List.map_nil, implies_true, forall_const, ne_eq]
          exact rn_fin hnx hwf ((Ext.refl σ).new _) rfl (x := ⟨wordK W, a, i⟩) (by simp only [St.obj_new, if_true, wordK, hk1, hw1, hE, Bool.false_eq_true, if_false]; rfl) (by rw [hL]; simp only [Tk3.mk.injEq, true_and]; omega)
      · have hE : numE W = 0 := by
          rw [numB_E] at hn1
          exact of_decide_eq_true hn1
        refine hgo_sound 60 ?_
        simp -implicitDefEqProofs (maxSteps := 1000000) only [simpS, ↓condJ_true, ↓condJ_false, ↓reduceIte, Nat.reduceEqDiff, Nat.reduceLT, Nat.reduceLeDiff, reduceCtorEq, Nat.reduceAdd, Nat.reduceSub, bindG_none, addG_none, hgrpK_none, nestK_none, hgrpK_guarded, Option.map_none, beq_self_eq_true, bne_self_eq_false, Option.map_some, if_true, if_false, List.getD_cons_zero, List.getD_cons_succ, List.length_cons, List.length_nil, List.mem_cons, List.not_mem_nil, List.mem_append, List.nil_append, List.cons_append, List.append_nil, List.take_succ_cons, List.take_zero, List.drop_succ_cons, List.drop_zero, List.set_cons_zero, List.set_cons_succ, List.map_cons, List.map_nil, implies_true, forall_const, ne_eq]
        refine hx_call (f := .fn 58) rfl (by rw [hP]; exact hcallD_func (rname_calls W (by omega) _)) ?_
        rintro _ σ2 ⟨rfl, h⟩
        subst σ2
        cases hw1 : isWord W <;> cases hk1 : isKw W <;> simp only [Bool.and_true, Bool.true_and, Bool.not_true, Bool.not_false, Bool.and_false, Bool.false_and]
        all_goals
          refine hgo_sound 60 ?_
          simp -implicitDefEqProofs (maxSteps := 1000000) only [simpS, ↓condJ_true, ↓condJ_false, ↓reduceIte, Nat.reduceEqDiff, Nat.reduceLT, Nat.reduceLeDiff, reduceCtorEq, Nat.reduceAdd, Nat.reduceSub, bindG_none, addG_none, hgrpK_none, nestK_none, hgrpK_guarded, Option.map_none, beq_self_eq_true, bne_self_eq_false, Option.map_some, if_true, if_false, List.getD_cons_zero, List.getD_cons_succ, List.length_cons, List.length_nil, List.mem_cons, List.not_mem_nil, List.mem_append, List.nil_append, List.cons_append, List.append_nil, List.take_succ_cons, List.take_zero, List.drop_succ_cons, List.drop_zero, List.set_cons_zero, List.set_cons_succ, List.map_cons, List.map_nil, implies_true, forall_const, ne_eq]
          refine hx_call (f := .fn 59) rfl (by rw [hP]; exact hcallD_func (rkeyword_calls W _)) ?_
          rintro _ σ2 ⟨rfl, h⟩
          subst σ2
          rw [hk1]
          refine hgo_sound 60 ?_
          simp -implicitDefEqProofs (maxSteps := 1000000) only [simpS, ↓condJ_true, ↓condJ_false, ↓reduceIte, Nat.reduceEqDiff, Nat.reduceLT, Nat.reduceLeDiff, reduceCtorEq, Nat.reduceAdd, Nat.reduceSub, bindG_none, addG_none, hgrpK_none, nestK_none, hgrpK_guarded, Option.map_none, beq_self_eq_true, bne_self_eq_false, Option.map_some, if_true, if_false, List.getD_cons_zero, List.getD_cons_succ, List.length_cons, List.length_nil, List.mem_cons, List.not_mem_nil, List.mem_append, List.nil_append, List.cons_append, List.append_nil, List.take_succ_cons, List.take_zero, List.drop_succ_cons, List.drop_zero, List.set_cons_zero, List.set_cons_succ, List.map_cons, List.map_nil, implies_true, forall_const, ne_eq]
          exact rn_fin hnx hwf ((Ext.refl σ).new _) rfl (x := ⟨wordK W, a, i⟩) (by simp only [St.obj_new, if_true, wordK, hk1, hw1, hE, Bool.false_eq_true, if_false]; rfl) (by rw [hL]; simp only [Tk3.mk.injEq, true_and]; omega)
  refine hgo_sound 60 ?_
  simp -implicitDefEqProofs (maxSteps := 1000000) only [simpS, ↓condJ_true, ↓condJ_false, ↓reduceIte, Nat.reduceEqDiff, Nat.reduceLT, Nat.reduceLeDiff, reduceCtorEq, Nat.reduceAdd, Nat.reduceSub, bindG_none, addG_none, hgrpK_none, nestK_none, hgrpK_guarded, Option.map_none, beq_self_eq_true, bne_self_eq_false, Option.map_some, if_true, if_false, List.getD_cons_zero, List.getD_cons_succ, List.length_cons, List.length_nil, List.mem_cons, List.not_mem_nil, List.mem_append, List.nil_append, List.cons_append, List.append_nil, List.take_succ_cons, List.take_zero, List.drop_succ_cons, List.drop_zero, List.set_cons_zero, List.set_cons_succ, List.map_cons, List.map_nil, implies_true, forall_const, ne_eq]
  refine hx_call (f := .fn 55) rfl (by rw [hP]; exact hcallD_func (has_calls s ⟨#[38, 38]⟩ a (by omega) (by decide) (by decide) _)) ?_
  rintro _ σ2 ⟨rfl, h⟩
  subst σ2
  have e5 : (⟨#[38, 38]⟩ : ByteArray).data.toList = [38, 38] := rfl
  rw [e5]
  have hw1 : IntKind.i64.wrap ((a : Int) + 1) = ((a + 1 : Nat) : Int) := by rw [IntWalk.i64_in _ (by omega)]; rfl
  have hw2 : IntKind.i64.wrap ((a : Int) + 2) = ((a + 2 : Nat) : Int) := by rw [IntWalk.i64_in _ (by omega)]; rfl
  cases h5 : ([38, 38] : List UInt8).isPrefixOf (s.data.toList.drop a)
  case true =>
    have hL : lexN (s.data.toList.drop a) = (6, 2) := by unfold lexN; rw [hh, hb, h1, h2, h3, h4, h5]; rfl
    refine hgo_sound 60 ?_
    simp -implicitDefEqProofs (maxSteps := 1000000) only [simpS, ↓condJ_true, ↓condJ_false, ↓reduceIte, Nat.reduceEqDiff, Nat.reduceLT, Nat.reduceLeDiff, reduceCtorEq, Nat.reduceAdd, Nat.reduceSub, bindG_none, addG_none, hgrpK_none, nestK_none, hgrpK_guarded, Option.map_none, beq_self_eq_true, bne_self_eq_false, Option.map_some, if_true, if_false, List.getD_cons_zero, List.getD_cons_succ, List.length_cons, List.length_nil, List.mem_cons, List.not_mem_nil, List.mem_append, List.nil_append, List.cons_append, List.append_nil, List.take_succ_cons, List.take_zero, List.drop_succ_cons, List.drop_zero, List.set_cons_zero, List.set_cons_succ, List.map_cons, List.map_nil, implies_true, forall_const, ne_eq, hw2]
    exact rn_fin hnx hwf ((Ext.refl σ).new _) rfl (x := ⟨6, a, a + 2⟩) (by simp only [St.obj_new, if_true]; rfl) (by rw [hL])
  have hL : lexN (s.data.toList.drop a) = if sgl (s.data.getD a 0) then (6, 1) else (7, 1) := by unfold lexN; rw [hh, hb, h1, h2, h3, h4, h5]; rfl
  rw [sgl_mem] at hL
  generalize hc : s.data.getD a 0 = c at *
  have hS : (⟨#[123, 125, 40, 41, 91, 93, 59, 44, 46, 61, 60, 43, 45, 42, 33]⟩ : ByteArray).data.toList = sgnL := rfl
  have hz : (⟨#[123, 125, 40, 41, 91, 93, 59, 44, 46, 61, 60, 43, 45, 42, 33]⟩ : ByteArray).size = 15 := rfl
  generalize (⟨#[123, 125, 40, 41, 91, 93, 59, 44, 46, 61, 60, 43, 45, 42, 33]⟩ : ByteArray) = S at *
  refine hgo_sound 60 ?_
  simp -implicitDefEqProofs (maxSteps := 1000000) only [simpS, ↓condJ_true, ↓condJ_false, ↓reduceIte, Nat.reduceEqDiff, Nat.reduceLT, Nat.reduceLeDiff, reduceCtorEq, Nat.reduceAdd, Nat.reduceSub, bindG_none, addG_none, hgrpK_none, nestK_none, hgrpK_guarded, Option.map_none, beq_self_eq_true, bne_self_eq_false, Option.map_some, if_true, if_false, List.getD_cons_zero, List.getD_cons_succ, List.length_cons, List.length_nil, List.mem_cons, List.not_mem_nil, List.mem_append, List.nil_append, List.cons_append, List.append_nil, List.take_succ_cons, List.take_zero, List.drop_succ_cons, List.drop_zero, List.set_cons_zero, List.set_cons_succ, List.map_cons, List.map_nil, implies_true, forall_const, ne_eq]
  refine hx_know_code fun hw hl hn => ?_
  refine hx_loop (S := RnI) (fun t => [(1, .int .i64 (a : Int)), (4, .ptr σ.next 0), (5, byD c), (12, .str S), (13, .int .i64 (t.i : Int))]) (fun t => σ.new (.bx none [.int .i64 0, .int .i64 0, .int .i64 0]))
    (fun t => t.i ≤ 15 ∧ ∀ j, j < t.i → S.data.getD j 0 ≠ c) (fun t => 15 - t.i) ⟨0⟩
    ⟨Nat.zero_le _, fun j h => absurd h (Nat.not_lt_zero _)⟩ (fun _ _ h => by rw [hr] at h; cases h) ?_ ?_
  · exact Drop.all hw hn ⟨⟨rfl, trivial⟩, ⟨rfl, hl 4⟩, ⟨rfl, trivial⟩, ⟨rfl, trivial⟩, ⟨rfl, trivial⟩, trivial⟩
  rintro ⟨i⟩ ⟨i1, i2⟩
  simp only at i1 i2 ⊢
  by_cases hi : i < 15
  · have hd : decide ((i : Int) < ((15 : Nat) : Int)) = true := decide_eq_true (by omega)
    have hi' : (i : Int) < ((15 : Nat) : Int) := by omega
    have hwi : IntKind.i64.wrap ((i : Int) + 1) = ((i + 1 : Nat) : Int) := by rw [IntWalk.i64_in _ (by omega)]; rfl
    have hme : S.data.getD i 0 ∈ sgnL := by
      rw [← hS, byte_at1 S i (by omega)]
      exact List.getElem_mem _
    by_cases he : S.data.getD i 0 = c
    · have hbe : (((S.data.getD i 0).toNat : Int) == (c.toNat : Int)) = true := by rw [he]; simp
      rw [he] at hme
      rw [if_pos (decide_eq_true hme)] at hL
      refine hgo_sound 60 ?_
      simp -implicitDefEqProofs (maxSteps := 1000000) only [simpS, ↓condJ_true, ↓condJ_false, ↓reduceIte, Nat.reduceEqDiff, Nat.reduceLT, Nat.reduceLeDiff, reduceCtorEq, Nat.reduceAdd, Nat.reduceSub, bindG_none, addG_none, hgrpK_none, nestK_none, hgrpK_guarded, Option.map_none, beq_self_eq_true, bne_self_eq_false, Option.map_some, if_true, if_false, List.getD_cons_zero, List.getD_cons_succ, List.length_cons, List.length_nil, List.mem_cons, List.not_mem_nil, List.mem_append, List.nil_append, List.cons_append, List.append_nil, List.take_succ_cons, List.take_zero, List.drop_succ_cons, List.drop_zero, List.set_cons_zero, List.set_cons_succ, List.map_cons, List.map_nil, implies_true, forall_const, ne_eq, hz, hd, hi', hbe, hw1, Int.toNat_natCast, Int.natCast_nonneg]
      exact rn_fin hnx hwf ((Ext.refl σ).new _) rfl (x := ⟨6, a, a + 1⟩) (by simp only [St.obj_new, if_true]; rfl) (by rw [hL])
    · have hbe : (((S.data.getD i 0).toNat : Int) == (c.toNat : Int)) = false := by
        simp only [beq_eq_false_iff_ne, ne_eq]
        intro h
        exact he (UInt8.toNat_inj.1 (by omega))
      refine hgo_sound 60 ?_
      simp -implicitDefEqProofs (maxSteps := 1000000) only [simpS, ↓condJ_true, ↓condJ_false, ↓reduceIte, Nat.reduceEqDiff, Nat.reduceLT, Nat.reduceLeDiff, reduceCtorEq, Nat.reduceAdd, Nat.reduceSub, bindG_none, addG_none, hgrpK_none, nestK_none, hgrpK_guarded, Option.map_none, beq_self_eq_true, bne_self_eq_false, Option.map_some, if_true, if_false, List.getD_cons_zero, List.getD_cons_succ, List.length_cons, List.length_nil, List.mem_cons, List.not_mem_nil, List.mem_append, List.nil_append, List.cons_append, List.append_nil, List.take_succ_cons, List.take_zero, List.drop_succ_cons, List.drop_zero, List.set_cons_zero, List.set_cons_succ, List.map_cons, List.map_nil, implies_true, forall_const, ne_eq, hz, hd, hi', hbe, hwi, Int.toNat_natCast, Int.natCast_nonneg]
      intro hw5 hl5 hn5
      refine ⟨⟨i + 1⟩, ⟨by simp only; omega, fun j hj => ?_⟩, by simp only; omega, Drop.all hw5 hn5 ⟨⟨rfl, trivial⟩, ⟨rfl, hl5 4⟩, ⟨rfl, trivial⟩, ⟨rfl, trivial⟩, ⟨rfl, trivial⟩, trivial⟩⟩
      simp only at hj
      rcases Nat.lt_or_ge j i with h | h
      · exact i2 j h
      · rw [show j = i by omega]; exact he
  · have hd : decide ((i : Int) < ((15 : Nat) : Int)) = false := decide_eq_false (by omega)
    have hnm : ¬ c ∈ sgnL := by
      intro h
      rw [← hS] at h
      obtain ⟨j, hj, e⟩ := List.getElem_of_mem h
      rw [len_list] at hj
      exact i2 j (by omega) (by rw [byte_at1 S j hj]; exact e)
    rw [if_neg (by simpa using hnm)] at hL
    refine hgo_sound 60 ?_
    simp -implicitDefEqProofs (maxSteps := 1000000) only [simpS, ↓condJ_true, ↓condJ_false, ↓reduceIte, Nat.reduceEqDiff, Nat.reduceLT, Nat.reduceLeDiff, reduceCtorEq, Nat.reduceAdd, Nat.reduceSub, bindG_none, addG_none, hgrpK_none, nestK_none, hgrpK_guarded, Option.map_none, beq_self_eq_true, bne_self_eq_false, Option.map_some, if_true, if_false, List.getD_cons_zero, List.getD_cons_succ, List.length_cons, List.length_nil, List.mem_cons, List.not_mem_nil, List.mem_append, List.nil_append, List.cons_append, List.append_nil, List.take_succ_cons, List.take_zero, List.drop_succ_cons, List.drop_zero, List.set_cons_zero, List.set_cons_succ, List.map_cons, List.map_nil, implies_true, forall_const, ne_eq, hz, hd, hw1]
    exact rn_fin hnx hwf ((Ext.refl σ).new _) rfl (x := ⟨7, a, a + 1⟩) (by simp only [St.obj_new, if_true]; rfl) (by rw [hL])

set_option maxHeartbeats 4000000 in
theorem rnext_calls (s : ByteArray) (a : Nat) (ha : a < s.size) (hs : s.size ≤ 1073741824) (σ : St) :
    HCalls Tryz.prog 45 [.str s, .int .i64 (a : Int)] σ (fun d σ' => d = .agg (encK3 ⟨(lexN (s.data.toList.drop a)).1, a, a + (lexN (s.data.toList.drop a)).2⟩) ∧ σ' = σ) := by
  refine hcalls_body (fn := Tryz.f45) rfl c45 (by simp [h45]) (by simp [h45, Tryz.f45]) ?_
  intro M hP hr hnt hnx hwf hlt
  simp only [h45, argEnv]
  have hh : (s.data.toList.drop a).headD 0 = s.data.getD a 0 := by rw [drop_cons1 s a ha]; rfl
  have ha' : (a : Int) < (s.size : Int) := by omega
  have e1 : (⟨#[47, 47]⟩ : ByteArray).data.toList = [47, 47] := rfl
  have e2 : (⟨#[47, 42]⟩ : ByteArray).data.toList = [47, 42] := rfl
  have e3 : (⟨#[42, 47]⟩ : ByteArray).data.toList = [42, 47] := rfl
  refine hgo_sound 60 ?_
  simp -implicitDefEqProofs (maxSteps := 1000000) only [simpS, ↓condJ_true, ↓condJ_false, ↓reduceIte, Nat.reduceEqDiff, Nat.reduceLT, Nat.reduceLeDiff, reduceCtorEq, Nat.reduceAdd, Nat.reduceSub, bindG_none, addG_none, hgrpK_none, nestK_none, hgrpK_guarded, Option.map_none, beq_self_eq_true, bne_self_eq_false, Option.map_some, if_true, if_false, List.getD_cons_zero, List.getD_cons_succ, List.length_cons, List.length_nil, List.mem_cons, List.not_mem_nil, List.mem_append, List.nil_append, List.cons_append, List.append_nil, List.take_succ_cons, List.take_zero, List.drop_succ_cons, List.drop_zero, List.set_cons_zero, List.set_cons_succ, List.map_cons, List.map_nil, implies_true, forall_const, ne_eq, ha', Int.toNat_natCast, Int.natCast_nonneg]
  refine hx_call (f := .fn 54) rfl (by rw [hP]; exact hcallD_func (rBlank_calls _ _)) ?_
  rintro _ σ2 ⟨rfl, h⟩
  subst σ2
  cases hb : isBlk (s.data.getD a 0)
  case true =>
    have hL : lexN (s.data.toList.drop a) = (1, runTo isBlk (s.data.toList.drop a)) := by unfold lexN; rw [hh, hb, if_pos rfl]
    refine hgo_sound 60 ?_
    simp -implicitDefEqProofs (maxSteps := 1000000) only [simpS, ↓condJ_true, ↓condJ_false, ↓reduceIte, Nat.reduceEqDiff, Nat.reduceLT, Nat.reduceLeDiff, reduceCtorEq, Nat.reduceAdd, Nat.reduceSub, bindG_none, addG_none, hgrpK_none, nestK_none, hgrpK_guarded, Option.map_none, beq_self_eq_true, bne_self_eq_false, Option.map_some, if_true, if_false, List.getD_cons_zero, List.getD_cons_succ, List.length_cons, List.length_nil, List.mem_cons, List.not_mem_nil, List.mem_append, List.nil_append, List.cons_append, List.append_nil, List.take_succ_cons, List.take_zero, List.drop_succ_cons, List.drop_zero, List.set_cons_zero, List.set_cons_succ, List.map_cons, List.map_nil, implies_true, forall_const, ne_eq]
    refine hx_know_code fun hw hl hn => ?_
    refine hx_loop (S := RnI) (fun t => [(0, .str s), (1, .int .i64 (a : Int)), (4, .ptr σ.next 0), (6, .int .i64 (t.i : Int))]) (fun t => σ.new (.bx none [.int .i64 0, .int .i64 0, .int .i64 0]))
      (fun t => a ≤ t.i ∧ t.i ≤ s.size ∧ runTo isBlk (s.data.toList.drop a) = t.i - a + runTo isBlk (s.data.toList.drop t.i)) (fun t => s.size - t.i) ⟨a⟩
      ⟨Nat.le_refl _, by simp only; omega, by simp only; omega⟩ (fun _ _ h => by rw [hr] at h; cases h) ?_ ?_
    · exact Drop.all hw hn ⟨⟨rfl, trivial⟩, ⟨rfl, trivial⟩, ⟨rfl, hl 4⟩, ⟨rfl, trivial⟩, trivial⟩
    rintro ⟨i⟩ ⟨i1, i2, i3⟩
    simp only at i1 i2 i3 ⊢
    by_cases hi : i < s.size
    · have hd : decide ((i : Int) < (s.size : Int)) = true := decide_eq_true (by omega)
      have hi' : (i : Int) < (s.size : Int) := by omega
      have hw2 : IntKind.i64.wrap ((i : Int) + 1) = ((i + 1 : Nat) : Int) := by rw [IntWalk.i64_in _ (by omega)]; rfl
      rw [drop_cons1 s i hi] at i3
      refine hgo_sound 60 ?_
      simp -implicitDefEqProofs (maxSteps := 1000000) only [simpS, ↓condJ_true, ↓condJ_false, ↓reduceIte, Nat.reduceEqDiff, Nat.reduceLT, Nat.reduceLeDiff, reduceCtorEq, Nat.reduceAdd, Nat.reduceSub, bindG_none, addG_none, hgrpK_none, nestK_none, hgrpK_guarded, Option.map_none, beq_self_eq_true, bne_self_eq_false, Option.map_some, if_true, if_false, List.getD_cons_zero, List.getD_cons_succ, List.length_cons, List.length_nil, List.mem_cons, List.not_mem_nil, List.mem_append, List.nil_append, List.cons_append, List.append_nil, List.take_succ_cons, List.take_zero, List.drop_succ_cons, List.drop_zero, List.set_cons_zero, List.set_cons_succ, List.map_cons, List.map_nil, implies_true, forall_const, ne_eq, hd, hi', Int.toNat_natCast, Int.natCast_nonneg]
      refine hx_call (f := .fn 54) rfl (by rw [hP]; exact hcallD_func (rBlank_calls _ _)) ?_
      rintro _ σ2 ⟨rfl, h⟩
      subst σ2
      cases hp : isBlk (s.data.getD i 0)
      · simp only [runTo, hp, Bool.false_eq_true, if_false] at i3
        refine hgo_sound 60 ?_
        simp -implicitDefEqProofs (maxSteps := 1000000) only [simpS, ↓condJ_true, ↓condJ_false, ↓reduceIte, Nat.reduceEqDiff, Nat.reduceLT, Nat.reduceLeDiff, reduceCtorEq, Nat.reduceAdd, Nat.reduceSub, bindG_none, addG_none, hgrpK_none, nestK_none, hgrpK_guarded, Option.map_none, beq_self_eq_true, bne_self_eq_false, Option.map_some, if_true, if_false, List.getD_cons_zero, List.getD_cons_succ, List.length_cons, List.length_nil, List.mem_cons, List.not_mem_nil, List.mem_append, List.nil_append, List.cons_append, List.append_nil, List.take_succ_cons, List.take_zero, List.drop_succ_cons, List.drop_zero, List.set_cons_zero, List.set_cons_succ, List.map_cons, List.map_nil, implies_true, forall_const, ne_eq]
        exact rn_fin hnx hwf ((Ext.refl σ).new _) rfl (x := ⟨1, a, i⟩) (by simp only [St.obj_new, if_true]; rfl) (by rw [hL]; simp only [Tk3.mk.injEq, true_and]; omega)
      · simp only [runTo, hp, if_true] at i3
        refine hgo_sound 60 ?_
        simp -implicitDefEqProofs (maxSteps := 1000000) only [simpS, ↓condJ_true, ↓condJ_false, ↓reduceIte, Nat.reduceEqDiff, Nat.reduceLT, Nat.reduceLeDiff, reduceCtorEq, Nat.reduceAdd, Nat.reduceSub, bindG_none, addG_none, hgrpK_none, nestK_none, hgrpK_guarded, Option.map_none, beq_self_eq_true, bne_self_eq_false, Option.map_some, if_true, if_false, List.getD_cons_zero, List.getD_cons_succ, List.length_cons, List.length_nil, List.mem_cons, List.not_mem_nil, List.mem_append, List.nil_append, List.cons_append, List.append_nil, List.take_succ_cons, List.take_zero, List.drop_succ_cons, List.drop_zero, List.set_cons_zero, List.set_cons_succ, List.map_cons, List.map_nil, implies_true, forall_const, ne_eq, hw2]
        intro hw5 hl5 hn5
        refine ⟨⟨i + 1⟩, ⟨by simp only; omega, by simp only; omega, by simp only; omega⟩, by simp only; omega, Drop.all hw5 hn5 ⟨⟨rfl, trivial⟩, ⟨rfl, trivial⟩, ⟨rfl, hl5 4⟩, ⟨rfl, trivial⟩, trivial⟩⟩
    · have hd : decide ((i : Int) < (s.size : Int)) = false := decide_eq_false (by omega)
      rw [drop_end s i (by omega)] at i3
      simp only [runTo] at i3
      refine hgo_sound 60 ?_
      simp -implicitDefEqProofs (maxSteps := 1000000) only [simpS, ↓condJ_true, ↓condJ_false, ↓reduceIte, Nat.reduceEqDiff, Nat.reduceLT, Nat.reduceLeDiff, reduceCtorEq, Nat.reduceAdd, Nat.reduceSub, bindG_none, addG_none, hgrpK_none, nestK_none, hgrpK_guarded, Option.map_none, beq_self_eq_true, bne_self_eq_false, Option.map_some, if_true, if_false, List.getD_cons_zero, List.getD_cons_succ, List.length_cons, List.length_nil, List.mem_cons, List.not_mem_nil, List.mem_append, List.nil_append, List.cons_append, List.append_nil, List.take_succ_cons, List.take_zero, List.drop_succ_cons, List.drop_zero, List.set_cons_zero, List.set_cons_succ, List.map_cons, List.map_nil, implies_true, forall_const, ne_eq, hd]
      exact rn_fin hnx hwf ((Ext.refl σ).new _) rfl (x := ⟨1, a, i⟩) (by simp only [St.obj_new, if_true]; rfl) (by rw [hL]; simp only [Tk3.mk.injEq, true_and]; omega)
  refine hgo_sound 60 ?_
  simp -implicitDefEqProofs (maxSteps := 1000000) only [simpS, ↓condJ_true, ↓condJ_false, ↓reduceIte, Nat.reduceEqDiff, Nat.reduceLT, Nat.reduceLeDiff, reduceCtorEq, Nat.reduceAdd, Nat.reduceSub, bindG_none, addG_none, hgrpK_none, nestK_none, hgrpK_guarded, Option.map_none, beq_self_eq_true, bne_self_eq_false, Option.map_some, if_true, if_false, List.getD_cons_zero, List.getD_cons_succ, List.length_cons, List.length_nil, List.mem_cons, List.not_mem_nil, List.mem_append, List.nil_append, List.cons_append, List.append_nil, List.take_succ_cons, List.take_zero, List.drop_succ_cons, List.drop_zero, List.set_cons_zero, List.set_cons_succ, List.map_cons, List.map_nil, implies_true, forall_const, ne_eq]
  refine hx_call (f := .fn 55) rfl (by rw [hP]; exact hcallD_func (has_calls s ⟨#[47, 47]⟩ a (by omega) (by decide) (by decide) _)) ?_
  rintro _ σ2 ⟨rfl, h⟩
  subst σ2
  rw [e1]
  cases h1 : ([47, 47] : List UInt8).isPrefixOf (s.data.toList.drop a)
  case true =>
    have hL : lexN (s.data.toList.drop a) = (2, runTo notNl (s.data.toList.drop a)) := by unfold lexN; rw [hh, hb, h1, lenTo_run]; rfl
    refine hgo_sound 60 ?_
    simp -implicitDefEqProofs (maxSteps := 1000000) only [simpS, ↓condJ_true, ↓condJ_false, ↓reduceIte, Nat.reduceEqDiff, Nat.reduceLT, Nat.reduceLeDiff, reduceCtorEq, Nat.reduceAdd, Nat.reduceSub, bindG_none, addG_none, hgrpK_none, nestK_none, hgrpK_guarded, Option.map_none, beq_self_eq_true, bne_self_eq_false, Option.map_some, if_true, if_false, List.getD_cons_zero, List.getD_cons_succ, List.length_cons, List.length_nil, List.mem_cons, List.not_mem_nil, List.mem_append, List.nil_append, List.cons_append, List.append_nil, List.take_succ_cons, List.take_zero, List.drop_succ_cons, List.drop_zero, List.set_cons_zero, List.set_cons_succ, List.map_cons, List.map_nil, implies_true, forall_const, ne_eq]
    refine hx_know_code fun hw hl hn => ?_
    refine hx_loop (S := RnI) (fun t => [(0, .str s), (1, .int .i64 (a : Int)), (4, .ptr σ.next 0), (6, .int .i64 (t.i : Int))]) (fun t => σ.new (.bx none [.int .i64 0, .int .i64 0, .int .i64 0]))
      (fun t => a ≤ t.i ∧ t.i ≤ s.size ∧ runTo notNl (s.data.toList.drop a) = t.i - a + runTo notNl (s.data.toList.drop t.i)) (fun t => s.size - t.i) ⟨a⟩
      ⟨Nat.le_refl _, by simp only; omega, by simp only; omega⟩ (fun _ _ h => by rw [hr] at h; cases h) ?_ ?_
    · exact Drop.all hw hn ⟨⟨rfl, trivial⟩, ⟨rfl, trivial⟩, ⟨rfl, hl 4⟩, ⟨rfl, trivial⟩, trivial⟩
    rintro ⟨i⟩ ⟨i1, i2, i3⟩
    simp only at i1 i2 i3 ⊢
    by_cases hi : i < s.size
    · have hd : decide ((i : Int) < (s.size : Int)) = true := decide_eq_true (by omega)
      have hi' : (i : Int) < (s.size : Int) := by omega
      have hw2 : IntKind.i64.wrap ((i : Int) + 1) = ((i + 1 : Nat) : Int) := by rw [IntWalk.i64_in _ (by omega)]; rfl
      rw [drop_cons1 s i hi] at i3
      cases hp : notNl (s.data.getD i 0)
      · simp only [runTo, hp, Bool.false_eq_true, if_false] at i3
        have hb : (((s.data.getD i 0).toNat : Int) != 10) = false := (notNl_eq _).symm.trans hp
        refine hgo_sound 60 ?_
        simp -implicitDefEqProofs (maxSteps := 1000000) only [simpS, ↓condJ_true, ↓condJ_false, ↓reduceIte, Nat.reduceEqDiff, Nat.reduceLT, Nat.reduceLeDiff, reduceCtorEq, Nat.reduceAdd, Nat.reduceSub, bindG_none, addG_none, hgrpK_none, nestK_none, hgrpK_guarded, Option.map_none, beq_self_eq_true, bne_self_eq_false, Option.map_some, if_true, if_false, List.getD_cons_zero, List.getD_cons_succ, List.length_cons, List.length_nil, List.mem_cons, List.not_mem_nil, List.mem_append, List.nil_append, List.cons_append, List.append_nil, List.take_succ_cons, List.take_zero, List.drop_succ_cons, List.drop_zero, List.set_cons_zero, List.set_cons_succ, List.map_cons, List.map_nil, implies_true, forall_const, ne_eq, hd, hi', hb, Int.toNat_natCast, Int.natCast_nonneg]
        exact rn_fin hnx hwf ((Ext.refl σ).new _) rfl (x := ⟨2, a, i⟩) (by simp only [St.obj_new, if_true]; rfl) (by rw [hL]; simp only [Tk3.mk.injEq, true_and]; omega)
      · simp only [runTo, hp, if_true] at i3
        have hb : (((s.data.getD i 0).toNat : Int) != 10) = true := (notNl_eq _).symm.trans hp
        refine hgo_sound 60 ?_
        simp -implicitDefEqProofs (maxSteps := 1000000) only [simpS, ↓condJ_true, ↓condJ_false, ↓reduceIte, Nat.reduceEqDiff, Nat.reduceLT, Nat.reduceLeDiff, reduceCtorEq, Nat.reduceAdd, Nat.reduceSub, bindG_none, addG_none, hgrpK_none, nestK_none, hgrpK_guarded, Option.map_none, beq_self_eq_true, bne_self_eq_false, Option.map_some, if_true, if_false, List.getD_cons_zero, List.getD_cons_succ, List.length_cons, List.length_nil, List.mem_cons, List.not_mem_nil, List.mem_append, List.nil_append, List.cons_append, List.append_nil, List.take_succ_cons, List.take_zero, List.drop_succ_cons, List.drop_zero, List.set_cons_zero, List.set_cons_succ, List.map_cons, List.map_nil, implies_true, forall_const, ne_eq, hd, hi', hb, hw2, Int.toNat_natCast, Int.natCast_nonneg]
        intro hw5 hl5 hn5
        refine ⟨⟨i + 1⟩, ⟨by simp only; omega, by simp only; omega, by simp only; omega⟩, by simp only; omega, Drop.all hw5 hn5 ⟨⟨rfl, trivial⟩, ⟨rfl, trivial⟩, ⟨rfl, hl5 4⟩, ⟨rfl, trivial⟩, trivial⟩⟩
    · have hd : decide ((i : Int) < (s.size : Int)) = false := decide_eq_false (by omega)
      rw [drop_end s i (by omega)] at i3
      simp only [runTo] at i3
      refine hgo_sound 60 ?_
      simp -implicitDefEqProofs (maxSteps := 1000000) only [simpS, ↓condJ_true, ↓condJ_false, ↓reduceIte, Nat.reduceEqDiff, Nat.reduceLT, Nat.reduceLeDiff, reduceCtorEq, Nat.reduceAdd, Nat.reduceSub, bindG_none, addG_none, hgrpK_none, nestK_none, hgrpK_guarded, Option.map_none, beq_self_eq_true, bne_self_eq_false, Option.map_some, if_true, if_false, List.getD_cons_zero, List.getD_cons_succ, List.length_cons, List.length_nil, List.mem_cons, List.not_mem_nil, List.mem_append, List.nil_append, List.cons_append, List.append_nil, List.take_succ_cons, List.take_zero, List.drop_succ_cons, List.drop_zero, List.set_cons_zero, List.set_cons_succ, List.map_cons, List.map_nil, implies_true, forall_const, ne_eq, hd]
      exact rn_fin hnx hwf ((Ext.refl σ).new _) rfl (x := ⟨2, a, i⟩) (by simp only [St.obj_new, if_true]; rfl) (by rw [hL]; simp only [Tk3.mk.injEq, true_and]; omega)
  refine hgo_sound 60 ?_
  simp -implicitDefEqProofs (maxSteps := 1000000) only [simpS, ↓condJ_true, ↓condJ_false, ↓reduceIte, Nat.reduceEqDiff, Nat.reduceLT, Nat.reduceLeDiff, reduceCtorEq, Nat.reduceAdd, Nat.reduceSub, bindG_none, addG_none, hgrpK_none, nestK_none, hgrpK_guarded, Option.map_none, beq_self_eq_true, bne_self_eq_false, Option.map_some, if_true, if_false, List.getD_cons_zero, List.getD_cons_succ, List.length_cons, List.length_nil, List.mem_cons, List.not_mem_nil, List.mem_append, List.nil_append, List.cons_append, List.append_nil, List.take_succ_cons, List.take_zero, List.drop_succ_cons, List.drop_zero, List.set_cons_zero, List.set_cons_succ, List.map_cons, List.map_nil, implies_true, forall_const, ne_eq]
  refine hx_call (f := .fn 55) rfl (by rw [hP]; exact hcallD_func (has_calls s ⟨#[47, 42]⟩ a (by omega) (by decide) (by decide) _)) ?_
  rintro _ σ2 ⟨rfl, h⟩
  subst σ2
  rw [e2]
  cases h2 : ([47, 42] : List UInt8).isPrefixOf (s.data.toList.drop a)
  case true =>
    have hlen := (List.isPrefixOf_iff_prefix.1 h2).length_le
    rw [List.length_drop, len_list] at hlen
    simp only [List.length_cons, List.length_nil] at hlen
    have hw2 : IntKind.i64.wrap ((a : Int) + 2) = ((a + 2 : Nat) : Int) := by rw [IntWalk.i64_in _ (by omega)]; rfl
    have hL : lexN (s.data.toList.drop a) = (match ix2 (s.data.toList.drop (a + 2)) with | some i => (2, i + 4) | none => (7, (s.data.toList.drop a).length)) := by unfold lexN; rw [hh, hb, h1, h2, List.drop_drop]; rfl
    refine hgo_sound 60 ?_
    simp -implicitDefEqProofs (maxSteps := 1000000) only [simpS, ↓condJ_true, ↓condJ_false, ↓reduceIte, Nat.reduceEqDiff, Nat.reduceLT, Nat.reduceLeDiff, reduceCtorEq, Nat.reduceAdd, Nat.reduceSub, bindG_none, addG_none, hgrpK_none, nestK_none, hgrpK_guarded, Option.map_none, beq_self_eq_true, bne_self_eq_false, Option.map_some, if_true, if_false, List.getD_cons_zero, List.getD_cons_succ, List.length_cons, List.length_nil, List.mem_cons, List.not_mem_nil, List.mem_append, List.nil_append, List.cons_append, List.append_nil, List.take_succ_cons, List.take_zero, List.drop_succ_cons, List.drop_zero, List.set_cons_zero, List.set_cons_succ, List.map_cons, List.map_nil, implies_true, forall_const, ne_eq, hw2]
    refine hx_know_code fun hw hl hn => ?_
    refine hx_loop (S := RnI) (fun t => [(0, .str s), (1, .int .i64 (a : Int)), (4, .ptr σ.next 0), (6, .int .i64 (t.i : Int))]) (fun t => σ.new (.bx none [.int .i64 0, .int .i64 0, .int .i64 0]))
      (fun t => a + 2 ≤ t.i ∧ t.i ≤ s.size ∧ ix2 (s.data.toList.drop (a + 2)) = (ix2 (s.data.toList.drop t.i)).map (· + (t.i - (a + 2)))) (fun t => s.size - t.i) ⟨a + 2⟩
      ⟨Nat.le_refl _, by simp only; omega, by simp⟩ (fun _ _ h => by rw [hr] at h; cases h) ?_ ?_
    · exact Drop.all hw hn ⟨⟨rfl, trivial⟩, ⟨rfl, trivial⟩, ⟨rfl, hl 4⟩, ⟨rfl, trivial⟩, trivial⟩
    rintro ⟨i⟩ ⟨i1, i2, i3⟩
    simp only at i1 i2 i3 ⊢
    by_cases hi : i < s.size
    · have hd : decide ((i : Int) < (s.size : Int)) = true := decide_eq_true (by omega)
      have hw2 : IntKind.i64.wrap ((i : Int) + 1) = ((i + 1 : Nat) : Int) := by rw [IntWalk.i64_in _ (by omega)]; rfl
      have hw3 : IntKind.i64.wrap ((i : Int) + 2) = ((i + 2 : Nat) : Int) := by rw [IntWalk.i64_in _ (by omega)]; rfl
      refine hgo_sound 60 ?_
      simp -implicitDefEqProofs (maxSteps := 1000000) only [simpS, ↓condJ_true, ↓condJ_false, ↓reduceIte, Nat.reduceEqDiff, Nat.reduceLT, Nat.reduceLeDiff, reduceCtorEq, Nat.reduceAdd, Nat.reduceSub, bindG_none, addG_none, hgrpK_none, nestK_none, hgrpK_guarded, Option.map_none, beq_self_eq_true, bne_self_eq_false, Option.map_some, if_true, if_false, List.getD_cons_zero, List.getD_cons_succ, List.length_cons, List.length_nil, List.mem_cons, List.not_mem_nil, List.mem_append, List.nil_append, List.cons_append, List.append_nil, List.take_succ_cons, List.take_zero, List.drop_succ_cons, List.drop_zero, List.set_cons_zero, List.set_cons_succ, List.map_cons, List.map_nil, implies_true, forall_const, ne_eq, hd]
      refine hx_call (f := .fn 55) rfl (by rw [hP]; exact hcallD_func (has_calls s ⟨#[42, 47]⟩ i (by omega) (by decide) (by decide) _)) ?_
      rintro _ σ2 ⟨rfl, h⟩
      subst σ2
      rw [e3]
      cases hp : ([42, 47] : List UInt8).isPrefixOf (s.data.toList.drop i)
      · rw [drop_cons1 s i hi] at hp i3
        simp only [ix2, hp, Bool.false_eq_true, if_false] at i3
        refine hgo_sound 60 ?_
        simp -implicitDefEqProofs (maxSteps := 1000000) only [simpS, ↓condJ_true, ↓condJ_false, ↓reduceIte, Nat.reduceEqDiff, Nat.reduceLT, Nat.reduceLeDiff, reduceCtorEq, Nat.reduceAdd, Nat.reduceSub, bindG_none, addG_none, hgrpK_none, nestK_none, hgrpK_guarded, Option.map_none, beq_self_eq_true, bne_self_eq_false, Option.map_some, if_true, if_false, List.getD_cons_zero, List.getD_cons_succ, List.length_cons, List.length_nil, List.mem_cons, List.not_mem_nil, List.mem_append, List.nil_append, List.cons_append, List.append_nil, List.take_succ_cons, List.take_zero, List.drop_succ_cons, List.drop_zero, List.set_cons_zero, List.set_cons_succ, List.map_cons, List.map_nil, implies_true, forall_const, ne_eq, hw2]
        intro hw5 hl5 hn5
        refine ⟨⟨i + 1⟩, ⟨by simp only; omega, by simp only; omega, ?_⟩, by simp only; omega, Drop.all hw5 hn5 ⟨⟨rfl, trivial⟩, ⟨rfl, trivial⟩, ⟨rfl, hl5 4⟩, ⟨rfl, trivial⟩, trivial⟩⟩
        simp only
        rw [i3, Option.map_map]
        congr 1
        funext q
        simp only [Function.comp]
        omega
      · rw [drop_cons1 s i hi] at hp i3
        simp only [ix2, hp, if_true, Option.map_some] at i3
        rw [i3] at hL
        refine hgo_sound 60 ?_
        simp -implicitDefEqProofs (maxSteps := 1000000) only [simpS, ↓condJ_true, ↓condJ_false, ↓reduceIte, Nat.reduceEqDiff, Nat.reduceLT, Nat.reduceLeDiff, reduceCtorEq, Nat.reduceAdd, Nat.reduceSub, bindG_none, addG_none, hgrpK_none, nestK_none, hgrpK_guarded, Option.map_none, beq_self_eq_true, bne_self_eq_false, Option.map_some, if_true, if_false, List.getD_cons_zero, List.getD_cons_succ, List.length_cons, List.length_nil, List.mem_cons, List.not_mem_nil, List.mem_append, List.nil_append, List.cons_append, List.append_nil, List.take_succ_cons, List.take_zero, List.drop_succ_cons, List.drop_zero, List.set_cons_zero, List.set_cons_succ, List.map_cons, List.map_nil, implies_true, forall_const, ne_eq, hw3]
        exact rn_fin hnx hwf ((Ext.refl σ).new _) rfl (x := ⟨2, a, i + 2⟩) (by simp only [St.obj_new, if_true]; rfl) (by rw [hL]; simp only [Tk3.mk.injEq, true_and]; omega)
    · have hd : decide ((i : Int) < (s.size : Int)) = false := decide_eq_false (by omega)
      rw [drop_end s i (by omega)] at i3
      simp only [ix2, Option.map_none] at i3
      rw [i3] at hL
      refine hgo_sound 60 ?_
      simp -implicitDefEqProofs (maxSteps := 1000000) only [simpS, ↓condJ_true, ↓condJ_false, ↓reduceIte, Nat.reduceEqDiff, Nat.reduceLT, Nat.reduceLeDiff, reduceCtorEq, Nat.reduceAdd, Nat.reduceSub, bindG_none, addG_none, hgrpK_none, nestK_none, hgrpK_guarded, Option.map_none, beq_self_eq_true, bne_self_eq_false, Option.map_some, if_true, if_false, List.getD_cons_zero, List.getD_cons_succ, List.length_cons, List.length_nil, List.mem_cons, List.not_mem_nil, List.mem_append, List.nil_append, List.cons_append, List.append_nil, List.take_succ_cons, List.take_zero, List.drop_succ_cons, List.drop_zero, List.set_cons_zero, List.set_cons_succ, List.map_cons, List.map_nil, implies_true, forall_const, ne_eq, hd]
      exact rn_fin hnx hwf ((Ext.refl σ).new _) rfl (x := ⟨7, a, s.size⟩) (by simp only [St.obj_new, if_true]; rfl) (by rw [hL]; simp only [Tk3.mk.injEq, true_and, List.length_drop, len_list]; omega)
  have e4 : (⟨#[83, 121, 115, 116, 101, 109, 46, 111, 117, 116, 46, 112, 114, 105, 110, 116, 108, 110]⟩ : ByteArray).data.toList = prnL := rfl
  have e5 : (⟨#[83, 121, 115, 116, 101, 109, 46, 111, 117, 116, 46, 112, 114, 105, 110, 116, 108, 110]⟩ : ByteArray).size = 18 := rfl
  have hw18 : IntKind.i64.wrap ((a : Int) + 18) = ((a + 18 : Nat) : Int) := by rw [IntWalk.i64_in _ (by omega)]; rfl
  have e18 : ((18 : Nat) : Int) = 18 := rfl
  have rest := rnW_ok s a ha hs σ M hP hr hnt hnx hwf
  refine hgo_sound 60 ?_
  simp -implicitDefEqProofs (maxSteps := 1000000) only [simpS, ↓condJ_true, ↓condJ_false, ↓reduceIte, Nat.reduceEqDiff, Nat.reduceLT, Nat.reduceLeDiff, reduceCtorEq, Nat.reduceAdd, Nat.reduceSub, bindG_none, addG_none, hgrpK_none, nestK_none, hgrpK_guarded, Option.map_none, beq_self_eq_true, bne_self_eq_false, Option.map_some, if_true, if_false, List.getD_cons_zero, List.getD_cons_succ, List.length_cons, List.length_nil, List.mem_cons, List.not_mem_nil, List.mem_append, List.nil_append, List.cons_append, List.append_nil, List.take_succ_cons, List.take_zero, List.drop_succ_cons, List.drop_zero, List.set_cons_zero, List.set_cons_succ, List.map_cons, List.map_nil, implies_true, forall_const, ne_eq]
  refine hx_call (f := .fn 55) rfl (by rw [hP]; exact hcallD_func (has_calls s ⟨#[83, 121, 115, 116, 101, 109, 46, 111, 117, 116, 46, 112, 114, 105, 110, 116, 108, 110]⟩ a (by omega) (by decide) (by decide) _)) ?_
  rintro _ σ2 ⟨rfl, h⟩
  subst σ2
  rw [e4]
  have rest2 : prnd (s.data.toList.drop a) = false → ∀ (e : Env), allW e (rnWE s a σ) → HX M (rnPost M s a σ) [.code rnC] e (σ.new (.bx none [.int .i64 0, .int .i64 0, .int .i64 0])) := fun hp e he =>
    hx_env (rnWE s a σ) he (rest hb h1 h2 hp) (fun _ e => by cases e) (fun _ e => by cases e)
  simp only [rnC, h45, tlC] at rest2
  cases h3 : prnL.isPrefixOf (s.data.toList.drop a)
  case false =>
    have hpf : prnd (s.data.toList.drop a) = false := by unfold prnd; rw [h3]; rfl
    refine hgo_sound 36 ?_
    simp -implicitDefEqProofs (maxSteps := 1000000) only [simpS, ↓condJ_true, ↓condJ_false, ↓reduceIte, Nat.reduceEqDiff, Nat.reduceLT, Nat.reduceLeDiff, reduceCtorEq, Nat.reduceAdd, Nat.reduceSub, bindG_none, addG_none, hgrpK_none, nestK_none, hgrpK_guarded, Option.map_none, beq_self_eq_true, bne_self_eq_false, Option.map_some, if_true, if_false, List.getD_cons_zero, List.getD_cons_succ, List.length_cons, List.length_nil, List.mem_cons, List.not_mem_nil, List.mem_append, List.nil_append, List.cons_append, List.append_nil, List.take_succ_cons, List.take_zero, List.drop_succ_cons, List.drop_zero, List.set_cons_zero, List.set_cons_succ, List.map_cons, List.map_nil, implies_true, forall_const, ne_eq, e5]
    exact rest2 hpf _ ⟨fun _ _ _ h => h, fun _ _ _ h => h, fun _ _ _ h => h, fun _ _ _ h => h, fun _ _ _ h => h, trivial⟩
  have hlen := (List.isPrefixOf_iff_prefix.1 h3).length_le
  rw [List.length_drop, len_list] at hlen
  simp only [List.length_cons, List.length_nil] at hlen
  by_cases hend : a + 18 = s.size
  · have hb18 : (((a + 18 : Nat) : Int) == (s.size : Int)) = true := by simp [hend]
    have hpt : prnd (s.data.toList.drop a) = true := by unfold prnd; rw [h3, List.drop_drop, drop_end s (a + 18) (by omega)]; rfl
    have hL : lexN (s.data.toList.drop a) = (3, 18) := by unfold lexN; rw [hh, hb, h1, h2, hpt]; rfl
    refine hgo_sound 60 ?_
    simp -implicitDefEqProofs (maxSteps := 1000000) only [simpS, ↓condJ_true, ↓condJ_false, ↓reduceIte, Nat.reduceEqDiff, Nat.reduceLT, Nat.reduceLeDiff, reduceCtorEq, Nat.reduceAdd, Nat.reduceSub, bindG_none, addG_none, hgrpK_none, nestK_none, hgrpK_guarded, Option.map_none, beq_self_eq_true, bne_self_eq_false, Option.map_some, if_true, if_false, List.getD_cons_zero, List.getD_cons_succ, List.length_cons, List.length_nil, List.mem_cons, List.not_mem_nil, List.mem_append, List.nil_append, List.cons_append, List.append_nil, List.take_succ_cons, List.take_zero, List.drop_succ_cons, List.drop_zero, List.set_cons_zero, List.set_cons_succ, List.map_cons, List.map_nil, implies_true, forall_const, ne_eq, e5, e18, hw18, hb18]
    exact rn_fin hnx hwf ((Ext.refl σ).new _) rfl (x := ⟨3, a, a + 18⟩) (by simp only [St.obj_new, if_true]; rfl) (by rw [hL])
  have hb18 : (((a + 18 : Nat) : Int) == (s.size : Int)) = false := by simp only [beq_eq_false_iff_ne, ne_eq]; omega
  have hl18 : ((a + 18 : Nat) : Int) < (s.size : Int) := by omega
  refine hgo_sound 60 ?_
  simp -implicitDefEqProofs (maxSteps := 1000000) only [simpS, ↓condJ_true, ↓condJ_false, ↓reduceIte, Nat.reduceEqDiff, Nat.reduceLT, Nat.reduceLeDiff, reduceCtorEq, Nat.reduceAdd, Nat.reduceSub, bindG_none, addG_none, hgrpK_none, nestK_none, hgrpK_guarded, Option.map_none, beq_self_eq_true, bne_self_eq_false, Option.map_some, if_true, if_false, List.getD_cons_zero, List.getD_cons_succ, List.length_cons, List.length_nil, List.mem_cons, List.not_mem_nil, List.mem_append, List.nil_append, List.cons_append, List.append_nil, List.take_succ_cons, List.take_zero, List.drop_succ_cons, List.drop_zero, List.set_cons_zero, List.set_cons_succ, List.map_cons, List.map_nil, implies_true, forall_const, ne_eq, e5, e18, hw18, hb18, hl18, Int.toNat_natCast, Int.natCast_nonneg]
  refine hx_call (f := .fn 56) rfl (by rw [hP]; exact hcallD_func (rinside_calls _ _)) ?_
  rintro _ σ2 ⟨rfl, h⟩
  subst σ2
  have hpi : prnd (s.data.toList.drop a) = !insP (s.data.getD (a + 18) 0) := by
    unfold prnd
    rw [h3, List.drop_drop, drop_cons1 s (a + 18) (by omega)]
    rfl
  cases h4 : insP (s.data.getD (a + 18) 0)
  · have hpt : prnd (s.data.toList.drop a) = true := by rw [hpi, h4]; rfl
    have hL : lexN (s.data.toList.drop a) = (3, 18) := by unfold lexN; rw [hh, hb, h1, h2, hpt]; rfl
    refine hgo_sound 60 ?_
    simp -implicitDefEqProofs (maxSteps := 1000000) only [simpS, ↓condJ_true, ↓condJ_false, ↓reduceIte, Nat.reduceEqDiff, Nat.reduceLT, Nat.reduceLeDiff, reduceCtorEq, Nat.reduceAdd, Nat.reduceSub, bindG_none, addG_none, hgrpK_none, nestK_none, hgrpK_guarded, Option.map_none, beq_self_eq_true, bne_self_eq_false, Option.map_some, if_true, if_false, List.getD_cons_zero, List.getD_cons_succ, List.length_cons, List.length_nil, List.mem_cons, List.not_mem_nil, List.mem_append, List.nil_append, List.cons_append, List.append_nil, List.take_succ_cons, List.take_zero, List.drop_succ_cons, List.drop_zero, List.set_cons_zero, List.set_cons_succ, List.map_cons, List.map_nil, implies_true, forall_const, ne_eq, e5, e18, hw18]
    exact rn_fin hnx hwf ((Ext.refl σ).new _) rfl (x := ⟨3, a, a + 18⟩) (by simp only [St.obj_new, if_true]; rfl) (by rw [hL])
  · have hpf : prnd (s.data.toList.drop a) = false := by rw [hpi, h4]; rfl
    refine hgo_sound 8 ?_
    simp -implicitDefEqProofs (maxSteps := 1000000) only [simpS, ↓condJ_true, ↓condJ_false, ↓reduceIte, Nat.reduceEqDiff, Nat.reduceLT, Nat.reduceLeDiff, reduceCtorEq, Nat.reduceAdd, Nat.reduceSub, bindG_none, addG_none, hgrpK_none, nestK_none, hgrpK_guarded, Option.map_none, beq_self_eq_true, bne_self_eq_false, Option.map_some, if_true, if_false, List.getD_cons_zero, List.getD_cons_succ, List.length_cons, List.length_nil, List.mem_cons, List.not_mem_nil, List.mem_append, List.nil_append, List.cons_append, List.append_nil, List.take_succ_cons, List.take_zero, List.drop_succ_cons, List.drop_zero, List.set_cons_zero, List.set_cons_succ, List.map_cons, List.map_nil, implies_true, forall_const, ne_eq, e5, e18, hw18]
    exact rest2 hpf _ ⟨fun _ _ _ h => h, fun _ _ _ h => h, fun _ _ _ h => h, fun _ _ _ h => h, fun _ _ _ h => h, trivial⟩

end Go.Hl
set_option linter.unusedSectionVars false
set_option linter.unusedVariables false
set_option linter.unusedSimpArgs false
set_option maxRecDepth 100000

namespace Go.Hl
open Go Go.Proofs Go.RowKit

structure RlI where
  c : List Tk3
  a : Nat

theorem rlist_calls (s : ByteArray) (hs : s.size ≤ 1073741824) (σ : St) : HCalls Tryz.prog 39 [.str s] σ (fun d σ' => d = .slice .no 3 (encTk (toks s.data.toList 0)) ∧ σ' = σ) := by
  refine hcalls_body (fn := Tryz.f39) rfl c39 (by simp [h39]) (by simp [h39, Tryz.f39]) ?_
  intro M hP hr hnt hnx hwf hlt
  simp only [h39, argEnv]
  have hnt' : M.nt = 20 := hnt
  refine hgo_sound 8 ?_
  simp -implicitDefEqProofs (maxSteps := 1000000) only [simpS, ↓condJ_true, ↓condJ_false, ↓reduceIte, Nat.reduceEqDiff, Nat.reduceLT, Nat.reduceLeDiff, reduceCtorEq, Nat.reduceAdd, Nat.reduceSub, bindG_none, addG_none, hgrpK_none, nestK_none, hgrpK_guarded, Option.map_none, beq_self_eq_true, bne_self_eq_false, Option.map_some, if_true, if_false, List.getD_cons_zero, List.getD_cons_succ, List.length_cons, List.length_nil, List.mem_cons, List.not_mem_nil, List.mem_append, List.nil_append, List.cons_append, List.append_nil, List.take_succ_cons, List.take_zero, List.drop_succ_cons, List.drop_zero, List.set_cons_zero, List.set_cons_succ, List.map_cons, List.map_nil, implies_true, forall_const, ne_eq]
  refine hx_full (t := 3) 91 3 rfl ?_ (fun _ e => by cases e) (fun _ e => by cases e)
  refine hgo_sound 60 ?_
  simp -implicitDefEqProofs (maxSteps := 1000000) only [simpS, ↓condJ_true, ↓condJ_false, ↓reduceIte, Nat.reduceEqDiff, Nat.reduceLT, Nat.reduceLeDiff, reduceCtorEq, Nat.reduceAdd, Nat.reduceSub, bindG_none, addG_none, hgrpK_none, nestK_none, hgrpK_guarded, Option.map_none, beq_self_eq_true, bne_self_eq_false, Option.map_some, if_true, if_false, List.getD_cons_zero, List.getD_cons_succ, List.length_cons, List.length_nil, List.mem_cons, List.not_mem_nil, List.mem_append, List.nil_append, List.cons_append, List.append_nil, List.take_succ_cons, List.take_zero, List.drop_succ_cons, List.drop_zero, List.set_cons_zero, List.set_cons_succ, List.map_cons, List.map_nil, implies_true, forall_const, ne_eq]
  refine hx_know_code fun hw hl hn => ?_
  have hS : ∀ n : Nat, (σ.new (.tok 91 n)).wf := fun n => hwf.new trivial
  refine hx_loop (S := RlI) (fun t => [(0, .str s), (3, .slice (.tok σ.next) 3 (encTk t.c)), (4, .int .i64 (t.a : Int))]) (fun t => σ.new (.tok 91 t.c.length))
    (fun t => t.a ≤ s.size ∧ t.c.length ≤ t.a ∧ toks s.data.toList 0 = t.c ++ toks (s.data.toList.drop t.a) t.a) (fun t => s.size - t.a) ⟨[], 0⟩
    ⟨Nat.zero_le _, Nat.le_refl _, rfl⟩ (fun _ _ h => by rw [hr] at h; cases h) ?_ ?_
  · exact Drop.all hw hn ⟨⟨rfl, trivial⟩, ⟨rfl, by simp only [D.lt, Own.lt, St.next_new]; exact ⟨by omega, trivial⟩⟩, ⟨rfl, trivial⟩, trivial⟩
  rintro ⟨c, a⟩ ⟨i1, i2, i3⟩
  simp only at i1 i2 i3 ⊢
  by_cases hi : a < s.size
  · have hd : decide ((a : Int) < (s.size : Int)) = true := decide_eq_true (by omega)
    have hne := drop_ne s a hi
    have hln := lexN_len _ hne
    rw [List.length_drop, len_list] at hln
    rw [toks_cons _ _ hne, List.drop_drop] at i3
    have hc := rnext_calls s a hi hs (σ.new (.tok 91 c.length))
    generalize lexN (s.data.toList.drop a) = kn at *
    obtain ⟨k, n⟩ := kn
    simp only at hln hc i3
    have hsz : (c.length + 1) * 24 ≤ 140737488355328 := by omega
    have hsz2 : c.length + 1 ≤ 9223372036854775807 := by omega
    refine hgo_sound 60 ?_
    simp -implicitDefEqProofs (maxSteps := 1000000) only [simpS, ↓condJ_true, ↓condJ_false, ↓reduceIte, Nat.reduceEqDiff, Nat.reduceLT, Nat.reduceLeDiff, reduceCtorEq, Nat.reduceAdd, Nat.reduceSub, bindG_none, addG_none, hgrpK_none, nestK_none, hgrpK_guarded, Option.map_none, beq_self_eq_true, bne_self_eq_false, Option.map_some, if_true, if_false, List.getD_cons_zero, List.getD_cons_succ, List.length_cons, List.length_nil, List.mem_cons, List.not_mem_nil, List.mem_append, List.nil_append, List.cons_append, List.append_nil, List.take_succ_cons, List.take_zero, List.drop_succ_cons, List.drop_zero, List.set_cons_zero, List.set_cons_succ, List.map_cons, List.map_nil, implies_true, forall_const, ne_eq, hd]
    refine hx_call (f := .fn 45) rfl (by rw [hP]; exact hcallD_func (hc)) ?_
    rintro _ σ2 ⟨rfl, h⟩
    subst σ2
    refine hgo_sound 60 ?_
    simp -implicitDefEqProofs (maxSteps := 1000000) only [simpS, ↓condJ_true, ↓condJ_false, ↓reduceIte, Nat.reduceEqDiff, Nat.reduceLT, Nat.reduceLeDiff, reduceCtorEq, Nat.reduceAdd, Nat.reduceSub, bindG_none, addG_none, hgrpK_none, nestK_none, hgrpK_guarded, Option.map_none, beq_self_eq_true, bne_self_eq_false, Option.map_some, if_true, if_false, List.getD_cons_zero, List.getD_cons_succ, List.length_cons, List.length_nil, List.mem_cons, List.not_mem_nil, List.mem_append, List.nil_append, List.cons_append, List.append_nil, List.take_succ_cons, List.take_zero, List.drop_succ_cons, List.drop_zero, List.set_cons_zero, List.set_cons_succ, List.map_cons, List.map_nil, implies_true, forall_const, ne_eq, encTk_length, hsz, hsz2]
    intro hw5 hl5 hn5
    refine ⟨⟨c ++ [⟨k, a, a + n⟩], a + n⟩, ⟨by simp only; omega, by simp only [List.length_append, List.length_cons, List.length_nil]; omega, by simp only [List.append_assoc, List.cons_append, List.nil_append]; exact i3⟩, by simp only; omega, ?_⟩
    simp only [List.length_append, List.length_cons, List.length_nil]
    refine Drop.allS (((Ext.refl _).new _).sub (hS _)) (hS _) (by rw [hnx, St.next_new]; omega) ⟨⟨rfl, trivial⟩, ⟨?_, by simp only [D.lt, Own.lt, St.next_new]; exact ⟨by omega, encTk_lt _ _⟩⟩, ⟨rfl, trivial⟩, trivial⟩
    rw [← encTk_snoc]
    rfl
  · have hd : decide ((a : Int) < (s.size : Int)) = false := decide_eq_false (by omega)
    rw [drop_end s a (by omega), toks_nil, List.append_nil] at i3
    rw [i3]
    refine hgo_sound 60 ?_
    simp -implicitDefEqProofs (maxSteps := 1000000) only [simpS, ↓condJ_true, ↓condJ_false, ↓reduceIte, Nat.reduceEqDiff, Nat.reduceLT, Nat.reduceLeDiff, reduceCtorEq, Nat.reduceAdd, Nat.reduceSub, bindG_none, addG_none, hgrpK_none, nestK_none, hgrpK_guarded, Option.map_none, beq_self_eq_true, bne_self_eq_false, Option.map_some, if_true, if_false, List.getD_cons_zero, List.getD_cons_succ, List.length_cons, List.length_nil, List.mem_cons, List.not_mem_nil, List.mem_append, List.nil_append, List.cons_append, List.append_nil, List.take_succ_cons, List.take_zero, List.drop_succ_cons, List.drop_zero, List.set_cons_zero, List.set_cons_succ, List.map_cons, List.map_nil, implies_true, forall_const, ne_eq, hd]
    exact fpost_strip (σ0 := σ) (ds := [.slice (.tok σ.next) 3 (encTk c)]) (Wk.refl _) (.inr rfl) (by rw [hnx]; exact Nat.le_refl _) hwf (((Ext.refl _).new _).sub hwf) rfl trivial (by simp only [tupD, frzD, if_true, D.lt, Own.lt]; exact ⟨trivial, encTk_lt _ _⟩) ⟨rfl, rfl⟩

end Go.Hl
set_option linter.unusedSectionVars false
set_option linter.unusedVariables false
set_option linter.unusedSimpArgs false
set_option maxRecDepth 100000
namespace Go.Hl
open Go Go.Proofs Go.RowKit

theorem toks_le (s : ByteArray) : (toks s.data.toList 0).length ≤ s.size := by
  have hl := toks_length s.size s.data.toList 0 (by rw [len_list]; exact Nat.le_refl _)
  rwa [len_list] at hl

end Go.Hl
