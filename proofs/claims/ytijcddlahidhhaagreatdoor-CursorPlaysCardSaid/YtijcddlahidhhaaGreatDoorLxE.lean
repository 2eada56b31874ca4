/-
  Layer 6: the reference's token.
-/
import Derived.Test.YtijcddlahidhhaaGreatDoorSgD
import Derived.KernelRfl
import Derived.Test.YtijcddlahidhhaaGreatDoorHlP
import Derived.Test.YtijcddlahidhhaaGreatDoorCodes
import Derived.Test.YtijcddlahidhhaaGreatDoorHlS
import Derived.IntWalk
set_option linter.unusedSectionVars false
set_option linter.unusedVariables false
set_option linter.unusedSimpArgs false
set_option maxRecDepth 100000

namespace Go.Hl
open Go Go.Proofs Go.RowKit

theorem byte_at1 (s : ByteArray) (j : Nat) (h : j < s.size) : s.data.getD j 0 = s.data.toList[j]'(by simpa using h) := by
  have h' : j < s.data.size := h
  rw [Array.getD_eq_getD_getElem?, Array.getElem?_eq_getElem h']
  simp
theorem drop_cons1 (s : ByteArray) (j : Nat) (h : j < s.size) : s.data.toList.drop j = s.data.getD j 0 :: s.data.toList.drop (j + 1) := by
  rw [byte_at1 s j h]
  exact List.drop_eq_getElem_cons (by simpa using h)
theorem drop_end (s : ByteArray) (j : Nat) (h : s.size ≤ j) : s.data.toList.drop j = [] := List.drop_eq_nil_of_le (by rw [len_list]; exact h)

theorem rinside_calls (b : UInt8) (σ : St) : HCalls Tryz.prog 56 [byD b] σ (fun d σ' => d = .bool (insP b) ∧ σ' = σ) := by
  refine hcalls_body (fn := Tryz.f56) rfl c56 (by simp [h56]) (by simp [h56, Tryz.f56]) ?_
  intro M hP hr hnt hnx hwf hlt
  simp only [h56, argEnv]
  have hnt' : M.nt = 9 := hnt
  refine hgo_sound 60 ?_
  simp -implicitDefEqProofs (maxSteps := 1000000) only [simpS, ↓condJ_true, ↓condJ_false, ↓reduceIte, Nat.reduceEqDiff, Nat.reduceLT, Nat.reduceLeDiff, reduceCtorEq, Nat.reduceAdd, Nat.reduceSub, noneS, listS, implies_true, forall_const, ne_eq]
  refine hx_call (f := .fn 70) rfl (by rw [hP]; exact hcallD_func (rLetter_calls b _)) ?_
  rintro _ σ2 ⟨rfl, h⟩
  subst σ2
  unfold insP
  cases h1 : isLet b
  · refine hgo_sound 60 ?_
    simp -implicitDefEqProofs (maxSteps := 1000000) only [simpS, ↓condJ_true, ↓condJ_false, ↓reduceIte, Nat.reduceEqDiff, Nat.reduceLT, Nat.reduceLeDiff, reduceCtorEq, Nat.reduceAdd, Nat.reduceSub, noneS, listS, implies_true, forall_const, ne_eq]
    refine hx_call (f := .fn 71) rfl (by rw [hP]; exact hcallD_func (rFigure_calls b _)) ?_
    rintro _ σ2 ⟨rfl, h⟩
    subst σ2
    refine hgo_sound 60 ?_
    simp -implicitDefEqProofs (maxSteps := 1000000) only [simpS, ↓condJ_true, ↓condJ_false, ↓reduceIte, Nat.reduceEqDiff, Nat.reduceLT, Nat.reduceLeDiff, reduceCtorEq, Nat.reduceAdd, Nat.reduceSub, noneS, listS, implies_true, forall_const, ne_eq]
    exact fpost_pure (σ0 := σ) (.inr rfl) (by rw [hnx]; exact Nat.le_refl _) hwf (by first | exact Sub.refl σ | exact (((Ext.refl _).new _).sub hwf)) rfl trivial (by repeat' (first | trivial | apply And.intro | exact encTk_lt _ _)) ⟨by simp [tupD, look], rfl⟩
  · refine hgo_sound 60 ?_
    simp -implicitDefEqProofs (maxSteps := 1000000) only [simpS, ↓condJ_true, ↓condJ_false, ↓reduceIte, Nat.reduceEqDiff, Nat.reduceLT, Nat.reduceLeDiff, reduceCtorEq, Nat.reduceAdd, Nat.reduceSub, noneS, listS, implies_true, forall_const, ne_eq]
    exact fpost_pure (σ0 := σ) (.inr rfl) (by rw [hnx]; exact Nat.le_refl _) hwf (by first | exact Sub.refl σ | exact (((Ext.refl _).new _).sub hwf)) rfl trivial (by repeat' (first | trivial | apply And.intro | exact encTk_lt _ _)) ⟨by simp [tupD, look], rfl⟩

theorem ext_pre (s t : ByteArray) (a : Nat) (h : a + t.size ≤ s.size) : decide (s.extract a (a + t.size) = t) = t.data.toList.isPrefixOf (s.data.toList.drop a) := by
  have e : (s.extract a (a + t.size)).data.toList = (s.data.toList.drop a).take t.data.toList.length := by
    rw [ByteArray.data_extract, len_list]
    simp [List.extract, List.drop_take]
  rw [Bool.eq_iff_iff, decide_eq_true_iff, List.isPrefixOf_iff_prefix, List.prefix_iff_eq_take, ← e]
  constructor
  · intro h; rw [h]
  · intro h
    apply ByteArray.ext
    apply Array.toList_inj.1
    exact h.symm

theorem has_calls (s t : ByteArray) (a : Nat) (ha : a ≤ 1099511627776) (h0 : 0 < t.size) (ht : t.size ≤ 1099511627776) (σ : St) : HCalls Tryz.prog 55 [.str s, .int .i64 (a : Int), .str t] σ (fun d σ' => d = .bool (t.data.toList.isPrefixOf (s.data.toList.drop a)) ∧ σ' = σ) := by
  refine hcalls_body (fn := Tryz.f55) rfl c55 (by simp [h55]) (by simp [h55, Tryz.f55]) ?_
  intro M hP hr hnt hnx hwf hlt
  simp only [h55, argEnv]
  have hw : IntKind.i64.wrap ((a : Int) + (t.size : Int)) = ((a + t.size : Nat) : Int) := by rw [IntWalk.i64_in _ (by omega)]; rfl
  by_cases h : a + t.size ≤ s.size
  · have hd : decide (((a + t.size : Nat) : Int) ≤ (s.size : Int)) = true := decide_eq_true (by omega)
    have h1 : (0 : Int) ≤ ((a + t.size : Nat) : Int) ∧ ((a + t.size : Nat) : Int) ≤ (s.size : Int) ∧ (a : Int) ≤ ((a + t.size : Nat) : Int) := by omega
    refine hgo_sound 60 ?_
    simp -implicitDefEqProofs (maxSteps := 1000000) only [simpS, ↓condJ_true, ↓condJ_false, ↓reduceIte, Nat.reduceEqDiff, Nat.reduceLT, Nat.reduceLeDiff, reduceCtorEq, Nat.reduceAdd, Nat.reduceSub, noneS, listS, implies_true, forall_const, ne_eq, hw, hd, h1.1, h1.2.1, h1.2.2, Int.toNat_natCast, Int.natCast_nonneg, ext_pre s t a h]
    exact fpost_pure (σ0 := σ) (.inr rfl) (by rw [hnx]; exact Nat.le_refl _) hwf (by first | exact Sub.refl σ | exact (((Ext.refl _).new _).sub hwf)) rfl trivial (by repeat' (first | trivial | apply And.intro | exact encTk_lt _ _)) ⟨rfl, rfl⟩
  · have hd : decide (((a + t.size : Nat) : Int) ≤ (s.size : Int)) = false := decide_eq_false (by omega)
    have hf : t.data.toList.isPrefixOf (s.data.toList.drop a) = false := by
      cases hc : t.data.toList.isPrefixOf (s.data.toList.drop a) with
      | false => rfl
      | true =>
        have := (List.isPrefixOf_iff_prefix.1 hc).length_le
        rw [List.length_drop, len_list, len_list] at this
        omega
    rw [hf]
    refine hgo_sound 60 ?_
    simp -implicitDefEqProofs (maxSteps := 1000000) only [simpS, ↓condJ_true, ↓condJ_false, ↓reduceIte, Nat.reduceEqDiff, Nat.reduceLT, Nat.reduceLeDiff, reduceCtorEq, Nat.reduceAdd, Nat.reduceSub, noneS, listS, implies_true, forall_const, ne_eq, hw, hd]
    exact fpost_pure (σ0 := σ) (.inr rfl) (by rw [hnx]; exact Nat.le_refl _) hwf (by first | exact Sub.refl σ | exact (((Ext.refl _).new _).sub hwf)) rfl trivial (by repeat' (first | trivial | apply And.intro | exact encTk_lt _ _)) ⟨rfl, rfl⟩

def rnC : HC := tlC (tlC (tlC (tlC (tlC (tlC (tlC (tlC h45.body)))))))
structure RnI where
  i : Nat

theorem rn_fin {M : Md} {σ : St} (hnx : M.gS.next = σ.next) (hwf : σ.wf) {e : Env} {σ' : St} (he : Ext σ σ') (h4 : look e 4 = .ptr σ.next 0) {x y : Tk3} (ho : σ'.obj σ.next = some (.bx none (encK3 x))) (hxy : x = y) :
    FPost M.gS.next [HR.cell 4 (some 3)] (fun d σ' => d = .agg (encK3 y) ∧ σ' = σ) .ret e σ' := by
  subst hxy
  exact fpost_pure (σ0 := σ) (.inr rfl) (by rw [hnx]; exact Nat.le_refl _) hwf (he.sub hwf) (ds := [.agg (encK3 x)]) (resD_cellS h4 ho rfl resD_nil) ⟨Nat.le_refl _, trivial⟩ ⟨trivial, trivial, trivial, trivial⟩ ⟨rfl, rfl⟩

def notNl (b : UInt8) : Bool := decide (b ≠ 10)
theorem notNl_eq (b : UInt8) : notNl b = ((b.toNat : Int) != 10) := by
  unfold notNl
  by_cases h : b = 10
  · subst h; rfl
  · have : b.toNat ≠ 10 := fun e => h (UInt8.toNat_inj.1 e)
    have h2 : ((b.toNat : Int) != 10) = true := by simp only [bne_iff_ne, ne_eq]; omega
    rw [h2]
    exact decide_eq_true h
theorem lenTo_run : ∀ l : List UInt8, lenTo l = runTo notNl l
  | [] => rfl
  | b :: r => by
    simp only [lenTo, runTo, notNl]
    rw [lenTo_run r]
    by_cases h : b = 10
    · simp [h]
    · simp [h, notNl]

theorem sgl_mem (c : UInt8) : sgl c = decide (c ∈ sgnL) := by
  have h : ∀ l : List UInt8, decide (Lib.indexByte l c ≥ 0) = decide (c ∈ l) := by
    intro l
    induction l with
    | nil => simp [Lib.indexByte]
    | cons b r ih =>
      simp only [Lib.indexByte]
      by_cases hb : (b == c) = true
      · have : b = c := by simpa using hb
        simp [this]
      · have hb' : (b == c) = false := by simpa using hb
        have hne : ¬ c = b := fun e => by simp [e] at hb
        simp only [hb', Bool.false_eq_true, if_false, List.mem_cons, hne, false_or]
        rw [← ih]
        by_cases h1 : (Lib.indexByte r c == -1) = true
        · have : Lib.indexByte r c = -1 := by simpa using h1
          simp [this]
        · have h1' : (Lib.indexByte r c == -1) = false := by simpa using h1
          rw [h1']
          have h2 : Lib.indexByte r c ≠ -1 := by simpa using h1
          have h3 := Lib.indexByte_ge r c
          simp only [Bool.false_eq_true, if_false]
          congr 1
          apply propext
          omega
  exact h sgnL
theorem numB_E (s : ByteArray) : numB s = decide (numE s = 0) := by
  unfold numB numE
  cases rNumD s <;> rfl
theorem ex_mid (s : ByteArray) (a n : Nat) : s.extract a (a + n) = bsL ((s.data.toList.drop a).take n) := by
  apply ByteArray.ext
  apply Array.toList_inj.1
  rw [ByteArray.data_extract]
  simp [List.extract]

abbrev rnPost (M : Md) (s : ByteArray) (a : Nat) (σ : St) : HPost := FPost M.gS.next [HR.cell 4 (some 3)] (fun d σ' => d = .agg (encK3 ⟨(lexN (s.data.toList.drop a)).1, a, a + (lexN (s.data.toList.drop a)).2⟩) ∧ σ' = σ)
def rnWE (s : ByteArray) (a : Nat) (σ : St) : Env := [(0, .str s), (1, .int .i64 (a : Int)), (4, .ptr σ.next 0), (5, byD (s.data.getD a 0)), (6, .int .i64 (a : Int))]

set_option maxHeartbeats 4000000 in
theorem rnW_ok (s : ByteArray) (a : Nat) (ha : a < s.size) (hs : s.size ≤ 1073741824) (σ : St) (M : Md) (hP : M.P = Tryz.prog) (hr : M.r = none) (hnt : M.nt = h45.nt) (hnx : M.gS.next = σ.next) (hwf : σ.wf)
    (hb : isBlk (s.data.getD a 0) = false) (h1 : ([47, 47] : List UInt8).isPrefixOf (s.data.toList.drop a) = false) (h2 : ([47, 42] : List UInt8).isPrefixOf (s.data.toList.drop a) = false) (h3 : prnd (s.data.toList.drop a) = false) :
    HX M (rnPost M s a σ) [.code rnC] (rnWE s a σ) (σ.new (.bx none [.int .i64 0, .int .i64 0, .int .i64 0])) := by
  have hh : (s.data.toList.drop a).headD 0 = s.data.getD a 0 := by rw [drop_cons1 s a ha]; rfl
  have ha' : (a : Int) < (s.size : Int) := by omega
  simp only [rnC, h45, tlC, rnWE]
  refine hgo_sound 60 ?_
  simp -implicitDefEqProofs (maxSteps := 1000000) only [simpS, ↓condJ_true, ↓condJ_false, ↓reduceIte, Nat.reduceEqDiff, Nat.reduceLT, Nat.reduceLeDiff, reduceCtorEq, Nat.reduceAdd, Nat.reduceSub, noneS, listS, implies_true, forall_const, ne_eq]
  refine hx_call (f := .fn 56) rfl (by rw [hP]; exact hcallD_func (rinside_calls _ _)) ?_
  rintro _ σ2 ⟨rfl, h⟩
  subst σ2
  cases h4 : insP (s.data.getD a 0)
  case true =>
    have hL : lexN (s.data.toList.drop a) = (wordK (bsL ((s.data.toList.drop a).take (runTo insP (s.data.toList.drop a)))), runTo insP (s.data.toList.drop a)) := by unfold lexN; rw [hh, hb, h1, h2, h3, h4]; rfl
    refine hgo_sound 60 ?_
    simp -implicitDefEqProofs (maxSteps := 1000000) only [simpS, ↓condJ_true, ↓condJ_false, ↓reduceIte, Nat.reduceEqDiff, Nat.reduceLT, Nat.reduceLeDiff, reduceCtorEq, Nat.reduceAdd, Nat.reduceSub, noneS, listS, implies_true, forall_const, ne_eq]
    refine hx_know_code fun hw hl hn => ?_
    refine hx_loop (S := RnI) (fun t => [(0, .str s), (1, .int .i64 (a : Int)), (4, .ptr σ.next 0), (6, .int .i64 (t.i : Int))]) (fun t => σ.new (.bx none [.int .i64 0, .int .i64 0, .int .i64 0]))
      (fun t => a ≤ t.i ∧ t.i ≤ s.size ∧ runTo insP (s.data.toList.drop a) = t.i - a + runTo insP (s.data.toList.drop t.i)) (fun t => s.size - t.i) ⟨a⟩
      ⟨Nat.le_refl _, by simp only; omega, by simp only; omega⟩ (fun _ _ h => by rw [hr] at h; cases h) ?_ ?_
    · exact Drop.all hw hn ⟨⟨rfl, trivial⟩, ⟨rfl, trivial⟩, ⟨rfl, hl 4⟩, ⟨rfl, trivial⟩, trivial⟩
    rintro ⟨i⟩ ⟨i1, i2, i3⟩
    simp only at i1 i2 i3 ⊢
    by_cases hi : i < s.size
    · have hd : decide ((i : Int) < (s.size : Int)) = true := decide_eq_true (by omega)
      have hi' : (i : Int) < (s.size : Int) := by omega
      have hw2 : IntKind.i64.wrap ((i : Int) + 1) = ((i + 1 : Nat) : Int) := by rw [IntWalk.i64_in _ (by omega)]; rfl
      rw [drop_cons1 s i hi] at i3
      refine hgo_sound 60 ?_
      simp -implicitDefEqProofs (maxSteps := 1000000) only [simpS, ↓condJ_true, ↓condJ_false, ↓reduceIte, Nat.reduceEqDiff, Nat.reduceLT, Nat.reduceLeDiff, reduceCtorEq, Nat.reduceAdd, Nat.reduceSub, noneS, listS, implies_true, forall_const, ne_eq, hd, hi', Int.toNat_natCast, Int.natCast_nonneg]
      refine hx_call (f := .fn 56) rfl (by rw [hP]; exact hcallD_func (rinside_calls _ _)) ?_
      rintro _ σ2 ⟨rfl, h⟩
      subst σ2
      cases hp : insP (s.data.getD i 0)
      · simp only [runTo, hp, Bool.false_eq_true, if_false] at i3
        have hi2 : i = a + runTo insP (s.data.toList.drop a) := by omega
        have hex := ex_mid s a (runTo insP (s.data.toList.drop a))
        rw [← hi2] at hex
        have hsl : (0 : Int) ≤ (i : Int) ∧ (i : Int) ≤ (s.size : Int) ∧ (0 : Int) ≤ (a : Int) ∧ (a : Int) ≤ (i : Int) := by omega
        have hws : (bsL ((s.data.toList.drop a).take (runTo insP (s.data.toList.drop a)))).size ≤ 1073741824 := by rw [← hex, ByteArray.size_extract]; omega
        generalize hW : bsL ((s.data.toList.drop a).take (runTo insP (s.data.toList.drop a))) = W at *
        refine hgo_sound 60 ?_
        simp -implicitDefEqProofs (maxSteps := 1000000) only [simpS, ↓condJ_true, ↓condJ_false, ↓reduceIte, Nat.reduceEqDiff, Nat.reduceLT, Nat.reduceLeDiff, reduceCtorEq, Nat.reduceAdd, Nat.reduceSub, noneS, listS, implies_true, forall_const, ne_eq, hsl.1, hsl.2.1, hsl.2.2.1, hsl.2.2.2, Int.toNat_natCast, hex]
        refine hx_call (f := .fn 57) rfl (by rw [hP]; exact hcallD_func (rnumber_calls W (by omega) _)) ?_
        rintro _ σ2 ⟨rfl, h⟩
        subst σ2
        cases hn1 : numB W
        · have hE : ¬ numE W = 0 := by
            rw [numB_E] at hn1
            exact of_decide_eq_false hn1
          refine hgo_sound 60 ?_
          simp -implicitDefEqProofs (maxSteps := 1000000) only [simpS, ↓condJ_true, ↓condJ_false, ↓reduceIte, Nat.reduceEqDiff, Nat.reduceLT, Nat.reduceLeDiff, reduceCtorEq, Nat.reduceAdd, Nat.reduceSub, noneS, listS, implies_true, forall_const, ne_eq]
          refine hx_call (f := .fn 58) rfl (by rw [hP]; exact hcallD_func (rname_calls W (by omega) _)) ?_
          rintro _ σ2 ⟨rfl, h⟩
          subst σ2
          cases hw1 : isWord W <;> cases hk1 : isKw W <;> simp only [Bool.and_true, Bool.true_and, Bool.not_true, Bool.not_false, Bool.and_false, Bool.false_and]
          all_goals
            refine hgo_sound 60 ?_
            simp -implicitDefEqProofs (maxSteps := 1000000) only [simpS, ↓condJ_true, ↓condJ_false, ↓reduceIte, Nat.reduceEqDiff, Nat.reduceLT, Nat.reduceLeDiff, reduceCtorEq, Nat.reduceAdd, Nat.reduceSub, noneS, listS, implies_true, forall_const, ne_eq]
            refine hx_call (f := .fn 59) rfl (by rw [hP]; exact hcallD_func (rkeyword_calls W _)) ?_
            rintro _ σ2 ⟨rfl, h⟩
            subst σ2
            rw [hk1]
            refine hgo_sound 60 ?_
            simp -implicitDefEqProofs (maxSteps := 1000000) only [simpS, ↓condJ_true, ↓condJ_false, ↓reduceIte, Nat.reduceEqDiff, Nat.reduceLT, Nat.reduceLeDiff, reduceCtorEq, Nat.reduceAdd, Nat.reduceSub, noneS, listS, implies_true, forall_const, ne_eq]
            exact rn_fin hnx hwf ((Ext.refl σ).new _) rfl (x := ⟨wordK W, a, i⟩) (by simp only [St.obj_new, if_true, wordK, hk1, hw1, hE, Bool.false_eq_true, if_false]; rfl) (by rw [hL]; simp only [Tk3.mk.injEq, true_and]; omega)
        · have hE : numE W = 0 := by
            rw [numB_E] at hn1
            exact of_decide_eq_true hn1
          refine hgo_sound 60 ?_
          simp -implicitDefEqProofs (maxSteps := 1000000) only [simpS, ↓condJ_true, ↓condJ_false, ↓reduceIte, Nat.reduceEqDiff, Nat.reduceLT, Nat.reduceLeDiff, reduceCtorEq, Nat.reduceAdd, Nat.reduceSub, noneS, listS, implies_true, forall_const, ne_eq]
          refine hx_call (f := .fn 58) rfl (by rw [hP]; exact hcallD_func (rname_calls W (by omega) _)) ?_
          rintro _ σ2 ⟨rfl, h⟩
          subst σ2
          cases hw1 : isWord W <;> cases hk1 : isKw W <;> simp only [Bool.and_true, Bool.true_and, Bool.not_true, Bool.not_false, Bool.and_false, Bool.false_and]
          all_goals
            refine hgo_sound 60 ?_
            simp -implicitDefEqProofs (maxSteps := 1000000) only [simpS, ↓condJ_true, ↓condJ_false, ↓reduceIte, Nat.reduceEqDiff, Nat.reduceLT, Nat.reduceLeDiff, reduceCtorEq, Nat.reduceAdd, Nat.reduceSub, noneS, listS, implies_true, forall_const, ne_eq]
            refine hx_call (f := .fn 59) rfl (by rw [hP]; exact hcallD_func (rkeyword_calls W _)) ?_
            rintro _ σ2 ⟨rfl, h⟩
            subst σ2
            rw [hk1]
            refine hgo_sound 60 ?_
            simp -implicitDefEqProofs (maxSteps := 1000000) only [simpS, ↓condJ_true, ↓condJ_false, ↓reduceIte, Nat.reduceEqDiff, Nat.reduceLT, Nat.reduceLeDiff, reduceCtorEq, Nat.reduceAdd, Nat.reduceSub, noneS, listS, implies_true, forall_const, ne_eq]
            exact rn_fin hnx hwf ((Ext.refl σ).new _) rfl (x := ⟨wordK W, a, i⟩) (by simp only [St.obj_new, if_true, wordK, hk1, hw1, hE, Bool.false_eq_true, if_false]; rfl) (by rw [hL]; simp only [Tk3.mk.injEq, true_and]; omega)
      · simp only [runTo, hp, if_true] at i3
        refine hgo_sound 60 ?_
        simp -implicitDefEqProofs (maxSteps := 1000000) only [simpS, ↓condJ_true, ↓condJ_false, ↓reduceIte, Nat.reduceEqDiff, Nat.reduceLT, Nat.reduceLeDiff, reduceCtorEq, Nat.reduceAdd, Nat.reduceSub, noneS, listS, implies_true, forall_const, ne_eq, hw2]
        intro hw5 hl5 hn5
        refine ⟨⟨i + 1⟩, ⟨by simp only; omega, by simp only; omega, by simp only; omega⟩, by simp only; omega, Drop.all hw5 hn5 ⟨⟨rfl, trivial⟩, ⟨rfl, trivial⟩, ⟨rfl, hl5 4⟩, ⟨rfl, trivial⟩, trivial⟩⟩
    · have hd : decide ((i : Int) < (s.size : Int)) = false := decide_eq_false (by omega)
      rw [drop_end s i (by omega)] at i3
      simp only [runTo] at i3
      have hi2 : i = a + runTo insP (s.data.toList.drop a) := by omega
      have hex := ex_mid s a (runTo insP (s.data.toList.drop a))
      rw [← hi2] at hex
      have hsl : (0 : Int) ≤ (i : Int) ∧ (i : Int) ≤ (s.size : Int) ∧ (0 : Int) ≤ (a : Int) ∧ (a : Int) ≤ (i : Int) := by omega
      have hws : (bsL ((s.data.toList.drop a).take (runTo insP (s.data.toList.drop a)))).size ≤ 1073741824 := by rw [← hex, ByteArray.size_extract]; omega
      generalize hW : bsL ((s.data.toList.drop a).take (runTo insP (s.data.toList.drop a))) = W at *
      refine hgo_sound 60 ?_
      simp -implicitDefEqProofs (maxSteps := 1000000) only [simpS, ↓condJ_true, ↓condJ_false, ↓reduceIte, Nat.reduceEqDiff, Nat.reduceLT, Nat.reduceLeDiff, reduceCtorEq, Nat.reduceAdd, Nat.reduceSub, noneS, listS, implies_true, forall_const, ne_eq, hd, hsl.1, hsl.2.1, hsl.2.2.1, hsl.2.2.2, Int.toNat_natCast, hex]
      refine hx_call (f := .fn 57) rfl (by rw [hP]; exact hcallD_func (rnumber_calls W (by omega) _)) ?_
      rintro _ σ2 ⟨rfl, h⟩
      subst σ2
      cases hn1 : numB W
      · have hE : ¬ numE W = 0 := by
          rw [numB_E] at hn1
          exact of_decide_eq_false hn1
        refine hgo_sound 60 ?_
        simp -implicitDefEqProofs (maxSteps := 1000000) only [simpS, ↓condJ_true, ↓condJ_false, ↓reduceIte, Nat.reduceEqDiff, Nat.reduceLT, Nat.reduceLeDiff, reduceCtorEq, Nat.reduceAdd, Nat.reduceSub, noneS, listS, implies_true, forall_const, ne_eq]
        refine hx_call (f := .fn 58) rfl (by rw [hP]; exact hcallD_func (rname_calls W (by omega) _)) ?_
        rintro _ σ2 ⟨rfl, h⟩
        subst σ2
        cases hw1 : isWord W <;> cases hk1 : isKw W <;> simp only [Bool.and_true, Bool.true_and, Bool.not_true, Bool.not_false, Bool.and_false, Bool.false_and]
        all_goals
          refine hgo_sound 60 ?_
          simp -implicitDefEqProofs (maxSteps := 1000000) only [simpS, ↓condJ_true, ↓condJ_false, ↓reduceIte, Nat.reduceEqDiff, Nat.reduceLT, Nat.reduceLeDiff, reduceCtorEq, Nat.reduceAdd, Nat.reduceSub, noneS, listS, implies_true, forall_const, ne_eq]
          refine hx_call (f := .fn 59) rfl (by rw [hP]; exact hcallD_func (rkeyword_calls W _)) ?_
          rintro _ σ2 ⟨rfl, h⟩
          subst σ2
          rw [hk1]
          refine hgo_sound 60 ?_
          simp -implicitDefEqProofs (maxSteps := 1000000) only [simpS, ↓condJ_true, ↓condJ_false, ↓reduceIte, Nat.reduceEqDiff, Nat.reduceLT, Nat.reduceLeDiff, reduceCtorEq, Nat.reduceAdd, Nat.reduceSub, noneS, listS, implies_true, forall_const, ne_eq]
          exact rn_fin hnx hwf ((Ext.refl σ).new _) rfl (x := ⟨wordK W, a, i⟩) (by simp only [St.obj_new, if_true, wordK, hk1, hw1, hE, Bool.false_eq_true, if_false]; rfl) (by rw [hL]; simp only [Tk3.mk.injEq, true_and]; omega)
      · have hE : numE W = 0 := by
          rw [numB_E] at hn1
          exact of_decide_eq_true hn1
        refine hgo_sound 60 ?_
        simp -implicitDefEqProofs (maxSteps := 1000000) only [simpS, ↓condJ_true, ↓condJ_false, ↓reduceIte, Nat.reduceEqDiff, Nat.reduceLT, Nat.reduceLeDiff, reduceCtorEq, Nat.reduceAdd, Nat.reduceSub, noneS, listS, implies_true, forall_const, ne_eq]
        refine hx_call (f := .fn 58) rfl (by rw [hP]; exact hcallD_func (rname_calls W (by omega) _)) ?_
        rintro _ σ2 ⟨rfl, h⟩
        subst σ2
        cases hw1 : isWord W <;> cases hk1 : isKw W <;> simp only [Bool.and_true, Bool.true_and, Bool.not_true, Bool.not_false, Bool.and_false, Bool.false_and]
        all_goals
          refine hgo_sound 60 ?_
          simp -implicitDefEqProofs (maxSteps := 1000000) only [simpS, ↓condJ_true, ↓condJ_false, ↓reduceIte, Nat.reduceEqDiff, Nat.reduceLT, Nat.reduceLeDiff, reduceCtorEq, Nat.reduceAdd, Nat.reduceSub, noneS, listS, implies_true, forall_const, ne_eq]
          refine hx_call (f := .fn 59) rfl (by rw [hP]; exact hcallD_func (rkeyword_calls W _)) ?_
          rintro _ σ2 ⟨rfl, h⟩
          subst σ2
          rw [hk1]
          refine hgo_sound 60 ?_
          simp -implicitDefEqProofs (maxSteps := 1000000) only [simpS, ↓condJ_true, ↓condJ_false, ↓reduceIte, Nat.reduceEqDiff, Nat.reduceLT, Nat.reduceLeDiff, reduceCtorEq, Nat.reduceAdd, Nat.reduceSub, noneS, listS, implies_true, forall_const, ne_eq]
          exact rn_fin hnx hwf ((Ext.refl σ).new _) rfl (x := ⟨wordK W, a, i⟩) (by simp only [St.obj_new, if_true, wordK, hk1, hw1, hE, Bool.false_eq_true, if_false]; rfl) (by rw [hL]; simp only [Tk3.mk.injEq, true_and]; omega)
  refine hgo_sound 60 ?_
  simp -implicitDefEqProofs (maxSteps := 1000000) only [simpS, ↓condJ_true, ↓condJ_false, ↓reduceIte, Nat.reduceEqDiff, Nat.reduceLT, Nat.reduceLeDiff, reduceCtorEq, Nat.reduceAdd, Nat.reduceSub, noneS, listS, implies_true, forall_const, ne_eq]
  refine hx_call (f := .fn 55) rfl (by rw [hP]; exact hcallD_func (has_calls s ⟨#[38, 38]⟩ a (by omega) (by decide) (by decide) _)) ?_
  rintro _ σ2 ⟨rfl, h⟩
  subst σ2
  have e5 : (⟨#[38, 38]⟩ : ByteArray).data.toList = [38, 38] := rfl
  rw [e5]
  have hw1 : IntKind.i64.wrap ((a : Int) + 1) = ((a + 1 : Nat) : Int) := by rw [IntWalk.i64_in _ (by omega)]; rfl
  have hw2 : IntKind.i64.wrap ((a : Int) + 2) = ((a + 2 : Nat) : Int) := by rw [IntWalk.i64_in _ (by omega)]; rfl
  cases h5 : ([38, 38] : List UInt8).isPrefixOf (s.data.toList.drop a)
  case true =>
    have hL : lexN (s.data.toList.drop a) = (6, 2) := by unfold lexN; rw [hh, hb, h1, h2, h3, h4, h5]; rfl
    refine hgo_sound 60 ?_
    simp -implicitDefEqProofs (maxSteps := 1000000) only [simpS, ↓condJ_true, ↓condJ_false, ↓reduceIte, Nat.reduceEqDiff, Nat.reduceLT, Nat.reduceLeDiff, reduceCtorEq, Nat.reduceAdd, Nat.reduceSub, noneS, listS, implies_true, forall_const, ne_eq, hw2]
    exact rn_fin hnx hwf ((Ext.refl σ).new _) rfl (x := ⟨6, a, a + 2⟩) (by simp only [St.obj_new, if_true]; rfl) (by rw [hL])
  have hL : lexN (s.data.toList.drop a) = if sgl (s.data.getD a 0) then (6, 1) else (7, 1) := by unfold lexN; rw [hh, hb, h1, h2, h3, h4, h5]; rfl
  rw [sgl_mem] at hL
  generalize hc : s.data.getD a 0 = c at *
  have hS : (⟨#[123, 125, 40, 41, 91, 93, 59, 44, 46, 61, 60, 43, 45, 42, 33]⟩ : ByteArray).data.toList = sgnL := rfl
  have hz : (⟨#[123, 125, 40, 41, 91, 93, 59, 44, 46, 61, 60, 43, 45, 42, 33]⟩ : ByteArray).size = 15 := rfl
  generalize (⟨#[123, 125, 40, 41, 91, 93, 59, 44, 46, 61, 60, 43, 45, 42, 33]⟩ : ByteArray) = S at *
  refine hgo_sound 60 ?_
  simp -implicitDefEqProofs (maxSteps := 1000000) only [simpS, ↓condJ_true, ↓condJ_false, ↓reduceIte, Nat.reduceEqDiff, Nat.reduceLT, Nat.reduceLeDiff, reduceCtorEq, Nat.reduceAdd, Nat.reduceSub, noneS, listS, implies_true, forall_const, ne_eq]
  refine hx_know_code fun hw hl hn => ?_
  refine hx_loop (S := RnI) (fun t => [(1, .int .i64 (a : Int)), (4, .ptr σ.next 0), (5, byD c), (12, .str S), (13, .int .i64 (t.i : Int))]) (fun t => σ.new (.bx none [.int .i64 0, .int .i64 0, .int .i64 0]))
    (fun t => t.i ≤ 15 ∧ ∀ j, j < t.i → S.data.getD j 0 ≠ c) (fun t => 15 - t.i) ⟨0⟩
    ⟨Nat.zero_le _, fun j h => absurd h (Nat.not_lt_zero _)⟩ (fun _ _ h => by rw [hr] at h; cases h) ?_ ?_
  · exact Drop.all hw hn ⟨⟨rfl, trivial⟩, ⟨rfl, hl 4⟩, ⟨rfl, trivial⟩, ⟨rfl, trivial⟩, ⟨rfl, trivial⟩, trivial⟩
  rintro ⟨i⟩ ⟨i1, i2⟩
  simp only at i1 i2 ⊢
  by_cases hi : i < 15
  · have hd : decide ((i : Int) < ((15 : Nat) : Int)) = true := decide_eq_true (by omega)
    have hi' : (i : Int) < ((15 : Nat) : Int) := by omega
    have hwi : IntKind.i64.wrap ((i : Int) + 1) = ((i + 1 : Nat) : Int) := by rw [IntWalk.i64_in _ (by omega)]; rfl
    have hme : S.data.getD i 0 ∈ sgnL := by
      rw [← hS, byte_at1 S i (by omega)]
      exact List.getElem_mem _
    by_cases he : S.data.getD i 0 = c
    · have hbe : (((S.data.getD i 0).toNat : Int) == (c.toNat : Int)) = true := by rw [he]; simp
      rw [he] at hme
      rw [if_pos (decide_eq_true hme)] at hL
      refine hgo_sound 60 ?_
      simp -implicitDefEqProofs (maxSteps := 1000000) only [simpS, ↓condJ_true, ↓condJ_false, ↓reduceIte, Nat.reduceEqDiff, Nat.reduceLT, Nat.reduceLeDiff, reduceCtorEq, Nat.reduceAdd, Nat.reduceSub, noneS, listS, implies_true, forall_const, ne_eq, hz, hd, hi', hbe, hw1, Int.toNat_natCast, Int.natCast_nonneg]
      exact rn_fin hnx hwf ((Ext.refl σ).new _) rfl (x := ⟨6, a, a + 1⟩) (by simp only [St.obj_new, if_true]; rfl) (by rw [hL])
    · have hbe : (((S.data.getD i 0).toNat : Int) == (c.toNat : Int)) = false := by
        simp only [beq_eq_false_iff_ne, ne_eq]
        intro h
        exact he (UInt8.toNat_inj.1 (by omega))
      refine hgo_sound 60 ?_
      simp -implicitDefEqProofs (maxSteps := 1000000) only [simpS, ↓condJ_true, ↓condJ_false, ↓reduceIte, Nat.reduceEqDiff, Nat.reduceLT, Nat.reduceLeDiff, reduceCtorEq, Nat.reduceAdd, Nat.reduceSub, noneS, listS, implies_true, forall_const, ne_eq, hz, hd, hi', hbe, hwi, Int.toNat_natCast, Int.natCast_nonneg]
      intro hw5 hl5 hn5
      refine ⟨⟨i + 1⟩, ⟨by simp only; omega, fun j hj => ?_⟩, by simp only; omega, Drop.all hw5 hn5 ⟨⟨rfl, trivial⟩, ⟨rfl, hl5 4⟩, ⟨rfl, trivial⟩, ⟨rfl, trivial⟩, ⟨rfl, trivial⟩, trivial⟩⟩
      simp only at hj
      rcases Nat.lt_or_ge j i with h | h
      · exact i2 j h
      · rw [show j = i by omega]; exact he
  · have hd : decide ((i : Int) < ((15 : Nat) : Int)) = false := decide_eq_false (by omega)
    have hnm : ¬ c ∈ sgnL := by
      intro h
      rw [← hS] at h
      obtain ⟨j, hj, e⟩ := List.getElem_of_mem h
      rw [len_list] at hj
      exact i2 j (by omega) (by rw [byte_at1 S j hj]; exact e)
    rw [if_neg (by simpa using hnm)] at hL
    refine hgo_sound 60 ?_
    simp -implicitDefEqProofs (maxSteps := 1000000) only [simpS, ↓condJ_true, ↓condJ_false, ↓reduceIte, Nat.reduceEqDiff, Nat.reduceLT, Nat.reduceLeDiff, reduceCtorEq, Nat.reduceAdd, Nat.reduceSub, noneS, listS, implies_true, forall_const, ne_eq, hz, hd, hw1]
    exact rn_fin hnx hwf ((Ext.refl σ).new _) rfl (x := ⟨7, a, a + 1⟩) (by simp only [St.obj_new, if_true]; rfl) (by rw [hL])

set_option maxHeartbeats 4000000 in
theorem rnext_calls (s : ByteArray) (a : Nat) (ha : a < s.size) (hs : s.size ≤ 1073741824) (σ : St) :
    HCalls Tryz.prog 45 [.str s, .int .i64 (a : Int)] σ (fun d σ' => d = .agg (encK3 ⟨(lexN (s.data.toList.drop a)).1, a, a + (lexN (s.data.toList.drop a)).2⟩) ∧ σ' = σ) := by
  refine hcalls_body (fn := Tryz.f45) rfl c45 (by simp [h45]) (by simp [h45, Tryz.f45]) ?_
  intro M hP hr hnt hnx hwf hlt
  simp only [h45, argEnv]
  have hh : (s.data.toList.drop a).headD 0 = s.data.getD a 0 := by rw [drop_cons1 s a ha]; rfl
  have ha' : (a : Int) < (s.size : Int) := by omega
  have e1 : (⟨#[47, 47]⟩ : ByteArray).data.toList = [47, 47] := rfl
  have e2 : (⟨#[47, 42]⟩ : ByteArray).data.toList = [47, 42] := rfl
  have e3 : (⟨#[42, 47]⟩ : ByteArray).data.toList = [42, 47] := rfl
  refine hgo_sound 60 ?_
  simp -implicitDefEqProofs (maxSteps := 1000000) only [simpS, ↓condJ_true, ↓condJ_false, ↓reduceIte, Nat.reduceEqDiff, Nat.reduceLT, Nat.reduceLeDiff, reduceCtorEq, Nat.reduceAdd, Nat.reduceSub, noneS, listS, implies_true, forall_const, ne_eq, ha', Int.toNat_natCast, Int.natCast_nonneg]
  refine hx_call (f := .fn 54) rfl (by rw [hP]; exact hcallD_func (rBlank_calls _ _)) ?_
  rintro _ σ2 ⟨rfl, h⟩
  subst σ2
  cases hb : isBlk (s.data.getD a 0)
  case true =>
    have hL : lexN (s.data.toList.drop a) = (1, runTo isBlk (s.data.toList.drop a)) := by unfold lexN; rw [hh, hb, if_pos rfl]
    refine hgo_sound 60 ?_
    simp -implicitDefEqProofs (maxSteps := 1000000) only [simpS, ↓condJ_true, ↓condJ_false, ↓reduceIte, Nat.reduceEqDiff, Nat.reduceLT, Nat.reduceLeDiff, reduceCtorEq, Nat.reduceAdd, Nat.reduceSub, noneS, listS, implies_true, forall_const, ne_eq]
    refine hx_know_code fun hw hl hn => ?_
    refine hx_loop (S := RnI) (fun t => [(0, .str s), (1, .int .i64 (a : Int)), (4, .ptr σ.next 0), (6, .int .i64 (t.i : Int))]) (fun t => σ.new (.bx none [.int .i64 0, .int .i64 0, .int .i64 0]))
      (fun t => a ≤ t.i ∧ t.i ≤ s.size ∧ runTo isBlk (s.data.toList.drop a) = t.i - a + runTo isBlk (s.data.toList.drop t.i)) (fun t => s.size - t.i) ⟨a⟩
      ⟨Nat.le_refl _, by simp only; omega, by simp only; omega⟩ (fun _ _ h => by rw [hr] at h; cases h) ?_ ?_
    · exact Drop.all hw hn ⟨⟨rfl, trivial⟩, ⟨rfl, trivial⟩, ⟨rfl, hl 4⟩, ⟨rfl, trivial⟩, trivial⟩
    rintro ⟨i⟩ ⟨i1, i2, i3⟩
    simp only at i1 i2 i3 ⊢
    by_cases hi : i < s.size
    · have hd : decide ((i : Int) < (s.size : Int)) = true := decide_eq_true (by omega)
      have hi' : (i : Int) < (s.size : Int) := by omega
      have hw2 : IntKind.i64.wrap ((i : Int) + 1) = ((i + 1 : Nat) : Int) := by rw [IntWalk.i64_in _ (by omega)]; rfl
      rw [drop_cons1 s i hi] at i3
      refine hgo_sound 60 ?_
      simp -implicitDefEqProofs (maxSteps := 1000000) only [simpS, ↓condJ_true, ↓condJ_false, ↓reduceIte, Nat.reduceEqDiff, Nat.reduceLT, Nat.reduceLeDiff, reduceCtorEq, Nat.reduceAdd, Nat.reduceSub, noneS, listS, implies_true, forall_const, ne_eq, hd, hi', Int.toNat_natCast, Int.natCast_nonneg]
      refine hx_call (f := .fn 54) rfl (by rw [hP]; exact hcallD_func (rBlank_calls _ _)) ?_
      rintro _ σ2 ⟨rfl, h⟩
      subst σ2
      cases hp : isBlk (s.data.getD i 0)
      · simp only [runTo, hp, Bool.false_eq_true, if_false] at i3
        refine hgo_sound 60 ?_
        simp -implicitDefEqProofs (maxSteps := 1000000) only [simpS, ↓condJ_true, ↓condJ_false, ↓reduceIte, Nat.reduceEqDiff, Nat.reduceLT, Nat.reduceLeDiff, reduceCtorEq, Nat.reduceAdd, Nat.reduceSub, noneS, listS, implies_true, forall_const, ne_eq]
        exact rn_fin hnx hwf ((Ext.refl σ).new _) rfl (x := ⟨1, a, i⟩) (by simp only [St.obj_new, if_true]; rfl) (by rw [hL]; simp only [Tk3.mk.injEq, true_and]; omega)
      · simp only [runTo, hp, if_true] at i3
        refine hgo_sound 60 ?_
        simp -implicitDefEqProofs (maxSteps := 1000000) only [simpS, ↓condJ_true, ↓condJ_false, ↓reduceIte, Nat.reduceEqDiff, Nat.reduceLT, Nat.reduceLeDiff, reduceCtorEq, Nat.reduceAdd, Nat.reduceSub, noneS, listS, implies_true, forall_const, ne_eq, hw2]
        intro hw5 hl5 hn5
        refine ⟨⟨i + 1⟩, ⟨by simp only; omega, by simp only; omega, by simp only; omega⟩, by simp only; omega, Drop.all hw5 hn5 ⟨⟨rfl, trivial⟩, ⟨rfl, trivial⟩, ⟨rfl, hl5 4⟩, ⟨rfl, trivial⟩, trivial⟩⟩
    · have hd : decide ((i : Int) < (s.size : Int)) = false := decide_eq_false (by omega)
      rw [drop_end s i (by omega)] at i3
      simp only [runTo] at i3
      refine hgo_sound 60 ?_
      simp -implicitDefEqProofs (maxSteps := 1000000) only [simpS, ↓condJ_true, ↓condJ_false, ↓reduceIte, Nat.reduceEqDiff, Nat.reduceLT, Nat.reduceLeDiff, reduceCtorEq, Nat.reduceAdd, Nat.reduceSub, noneS, listS, implies_true, forall_const, ne_eq, hd]
      exact rn_fin hnx hwf ((Ext.refl σ).new _) rfl (x := ⟨1, a, i⟩) (by simp only [St.obj_new, if_true]; rfl) (by rw [hL]; simp only [Tk3.mk.injEq, true_and]; omega)
  refine hgo_sound 60 ?_
  simp -implicitDefEqProofs (maxSteps := 1000000) only [simpS, ↓condJ_true, ↓condJ_false, ↓reduceIte, Nat.reduceEqDiff, Nat.reduceLT, Nat.reduceLeDiff, reduceCtorEq, Nat.reduceAdd, Nat.reduceSub, noneS, listS, implies_true, forall_const, ne_eq]
  refine hx_call (f := .fn 55) rfl (by rw [hP]; exact hcallD_func (has_calls s ⟨#[47, 47]⟩ a (by omega) (by decide) (by decide) _)) ?_
  rintro _ σ2 ⟨rfl, h⟩
  subst σ2
  rw [e1]
  cases h1 : ([47, 47] : List UInt8).isPrefixOf (s.data.toList.drop a)
  case true =>
    have hL : lexN (s.data.toList.drop a) = (2, runTo notNl (s.data.toList.drop a)) := by unfold lexN; rw [hh, hb, h1, lenTo_run]; rfl
    refine hgo_sound 60 ?_
    simp -implicitDefEqProofs (maxSteps := 1000000) only [simpS, ↓condJ_true, ↓condJ_false, ↓reduceIte, Nat.reduceEqDiff, Nat.reduceLT, Nat.reduceLeDiff, reduceCtorEq, Nat.reduceAdd, Nat.reduceSub, noneS, listS, implies_true, forall_const, ne_eq]
    refine hx_know_code fun hw hl hn => ?_
    refine hx_loop (S := RnI) (fun t => [(0, .str s), (1, .int .i64 (a : Int)), (4, .ptr σ.next 0), (6, .int .i64 (t.i : Int))]) (fun t => σ.new (.bx none [.int .i64 0, .int .i64 0, .int .i64 0]))
      (fun t => a ≤ t.i ∧ t.i ≤ s.size ∧ runTo notNl (s.data.toList.drop a) = t.i - a + runTo notNl (s.data.toList.drop t.i)) (fun t => s.size - t.i) ⟨a⟩
      ⟨Nat.le_refl _, by simp only; omega, by simp only; omega⟩ (fun _ _ h => by rw [hr] at h; cases h) ?_ ?_
    · exact Drop.all hw hn ⟨⟨rfl, trivial⟩, ⟨rfl, trivial⟩, ⟨rfl, hl 4⟩, ⟨rfl, trivial⟩, trivial⟩
    rintro ⟨i⟩ ⟨i1, i2, i3⟩
    simp only at i1 i2 i3 ⊢
    by_cases hi : i < s.size
    · have hd : decide ((i : Int) < (s.size : Int)) = true := decide_eq_true (by omega)
      have hi' : (i : Int) < (s.size : Int) := by omega
      have hw2 : IntKind.i64.wrap ((i : Int) + 1) = ((i + 1 : Nat) : Int) := by rw [IntWalk.i64_in _ (by omega)]; rfl
      rw [drop_cons1 s i hi] at i3
      cases hp : notNl (s.data.getD i 0)
      · simp only [runTo, hp, Bool.false_eq_true, if_false] at i3
        have hb : (((s.data.getD i 0).toNat : Int) != 10) = false := (notNl_eq _).symm.trans hp
        refine hgo_sound 60 ?_
        simp -implicitDefEqProofs (maxSteps := 1000000) only [simpS, ↓condJ_true, ↓condJ_false, ↓reduceIte, Nat.reduceEqDiff, Nat.reduceLT, Nat.reduceLeDiff, reduceCtorEq, Nat.reduceAdd, Nat.reduceSub, noneS, listS, implies_true, forall_const, ne_eq, hd, hi', hb, Int.toNat_natCast, Int.natCast_nonneg]
        exact rn_fin hnx hwf ((Ext.refl σ).new _) rfl (x := ⟨2, a, i⟩) (by simp only [St.obj_new, if_true]; rfl) (by rw [hL]; simp only [Tk3.mk.injEq, true_and]; omega)
      · simp only [runTo, hp, if_true] at i3
        have hb : (((s.data.getD i 0).toNat : Int) != 10) = true := (notNl_eq _).symm.trans hp
        refine hgo_sound 60 ?_
        simp -implicitDefEqProofs (maxSteps := 1000000) only [simpS, ↓condJ_true, ↓condJ_false, ↓reduceIte, Nat.reduceEqDiff, Nat.reduceLT, Nat.reduceLeDiff, reduceCtorEq, Nat.reduceAdd, Nat.reduceSub, noneS, listS, implies_true, forall_const, ne_eq, hd, hi', hb, hw2, Int.toNat_natCast, Int.natCast_nonneg]
        intro hw5 hl5 hn5
        refine ⟨⟨i + 1⟩, ⟨by simp only; omega, by simp only; omega, by simp only; omega⟩, by simp only; omega, Drop.all hw5 hn5 ⟨⟨rfl, trivial⟩, ⟨rfl, trivial⟩, ⟨rfl, hl5 4⟩, ⟨rfl, trivial⟩, trivial⟩⟩
    · have hd : decide ((i : Int) < (s.size : Int)) = false := decide_eq_false (by omega)
      rw [drop_end s i (by omega)] at i3
      simp only [runTo] at i3
      refine hgo_sound 60 ?_
      simp -implicitDefEqProofs (maxSteps := 1000000) only [simpS, ↓condJ_true, ↓condJ_false, ↓reduceIte, Nat.reduceEqDiff, Nat.reduceLT, Nat.reduceLeDiff, reduceCtorEq, Nat.reduceAdd, Nat.reduceSub, noneS, listS, implies_true, forall_const, ne_eq, hd]
      exact rn_fin hnx hwf ((Ext.refl σ).new _) rfl (x := ⟨2, a, i⟩) (by simp only [St.obj_new, if_true]; rfl) (by rw [hL]; simp only [Tk3.mk.injEq, true_and]; omega)
  refine hgo_sound 60 ?_
  simp -implicitDefEqProofs (maxSteps := 1000000) only [simpS, ↓condJ_true, ↓condJ_false, ↓reduceIte, Nat.reduceEqDiff, Nat.reduceLT, Nat.reduceLeDiff, reduceCtorEq, Nat.reduceAdd, Nat.reduceSub, noneS, listS, implies_true, forall_const, ne_eq]
  refine hx_call (f := .fn 55) rfl (by rw [hP]; exact hcallD_func (has_calls s ⟨#[47, 42]⟩ a (by omega) (by decide) (by decide) _)) ?_
  rintro _ σ2 ⟨rfl, h⟩
  subst σ2
  rw [e2]
  cases h2 : ([47, 42] : List UInt8).isPrefixOf (s.data.toList.drop a)
  case true =>
    have hlen := (List.isPrefixOf_iff_prefix.1 h2).length_le
    rw [List.length_drop, len_list] at hlen
    simp only [List.length_cons, List.length_nil] at hlen
    have hw2 : IntKind.i64.wrap ((a : Int) + 2) = ((a + 2 : Nat) : Int) := by rw [IntWalk.i64_in _ (by omega)]; rfl
    have hL : lexN (s.data.toList.drop a) = (match ix2 (s.data.toList.drop (a + 2)) with | some i => (2, i + 4) | none => (7, (s.data.toList.drop a).length)) := by unfold lexN; rw [hh, hb, h1, h2, List.drop_drop]; rfl
    refine hgo_sound 60 ?_
    simp -implicitDefEqProofs (maxSteps := 1000000) only [simpS, ↓condJ_true, ↓condJ_false, ↓reduceIte, Nat.reduceEqDiff, Nat.reduceLT, Nat.reduceLeDiff, reduceCtorEq, Nat.reduceAdd, Nat.reduceSub, noneS, listS, implies_true, forall_const, ne_eq, hw2]
    refine hx_know_code fun hw hl hn => ?_
    refine hx_loop (S := RnI) (fun t => [(0, .str s), (1, .int .i64 (a : Int)), (4, .ptr σ.next 0), (6, .int .i64 (t.i : Int))]) (fun t => σ.new (.bx none [.int .i64 0, .int .i64 0, .int .i64 0]))
      (fun t => a + 2 ≤ t.i ∧ t.i ≤ s.size ∧ ix2 (s.data.toList.drop (a + 2)) = (ix2 (s.data.toList.drop t.i)).map (· + (t.i - (a + 2)))) (fun t => s.size - t.i) ⟨a + 2⟩
      ⟨Nat.le_refl _, by simp only; omega, by simp⟩ (fun _ _ h => by rw [hr] at h; cases h) ?_ ?_
    · exact Drop.all hw hn ⟨⟨rfl, trivial⟩, ⟨rfl, trivial⟩, ⟨rfl, hl 4⟩, ⟨rfl, trivial⟩, trivial⟩
    rintro ⟨i⟩ ⟨i1, i2, i3⟩
    simp only at i1 i2 i3 ⊢
    by_cases hi : i < s.size
    · have hd : decide ((i : Int) < (s.size : Int)) = true := decide_eq_true (by omega)
      have hw2 : IntKind.i64.wrap ((i : Int) + 1) = ((i + 1 : Nat) : Int) := by rw [IntWalk.i64_in _ (by omega)]; rfl
      have hw3 : IntKind.i64.wrap ((i : Int) + 2) = ((i + 2 : Nat) : Int) := by rw [IntWalk.i64_in _ (by omega)]; rfl
      refine hgo_sound 60 ?_
      simp -implicitDefEqProofs (maxSteps := 1000000) only [simpS, ↓condJ_true, ↓condJ_false, ↓reduceIte, Nat.reduceEqDiff, Nat.reduceLT, Nat.reduceLeDiff, reduceCtorEq, Nat.reduceAdd, Nat.reduceSub, noneS, listS, implies_true, forall_const, ne_eq, hd]
      refine hx_call (f := .fn 55) rfl (by rw [hP]; exact hcallD_func (has_calls s ⟨#[42, 47]⟩ i (by omega) (by decide) (by decide) _)) ?_
      rintro _ σ2 ⟨rfl, h⟩
      subst σ2
      rw [e3]
      cases hp : ([42, 47] : List UInt8).isPrefixOf (s.data.toList.drop i)
      · rw [drop_cons1 s i hi] at hp i3
        simp only [ix2, hp, Bool.false_eq_true, if_false] at i3
        refine hgo_sound 60 ?_
        simp -implicitDefEqProofs (maxSteps := 1000000) only [simpS, ↓condJ_true, ↓condJ_false, ↓reduceIte, Nat.reduceEqDiff, Nat.reduceLT, Nat.reduceLeDiff, reduceCtorEq, Nat.reduceAdd, Nat.reduceSub, noneS, listS, implies_true, forall_const, ne_eq, hw2]
        intro hw5 hl5 hn5
        refine ⟨⟨i + 1⟩, ⟨by simp only; omega, by simp only; omega, ?_⟩, by simp only; omega, Drop.all hw5 hn5 ⟨⟨rfl, trivial⟩, ⟨rfl, trivial⟩, ⟨rfl, hl5 4⟩, ⟨rfl, trivial⟩, trivial⟩⟩
        simp only
        rw [i3, Option.map_map]
        congr 1
        funext q
        simp only [Function.comp]
        omega
      · rw [drop_cons1 s i hi] at hp i3
        simp only [ix2, hp, if_true, Option.map_some] at i3
        rw [i3] at hL
        refine hgo_sound 60 ?_
        simp -implicitDefEqProofs (maxSteps := 1000000) only [simpS, ↓condJ_true, ↓condJ_false, ↓reduceIte, Nat.reduceEqDiff, Nat.reduceLT, Nat.reduceLeDiff, reduceCtorEq, Nat.reduceAdd, Nat.reduceSub, noneS, listS, implies_true, forall_const, ne_eq, hw3]
        exact rn_fin hnx hwf ((Ext.refl σ).new _) rfl (x := ⟨2, a, i + 2⟩) (by simp only [St.obj_new, if_true]; rfl) (by rw [hL]; simp only [Tk3.mk.injEq, true_and]; omega)
    · have hd : decide ((i : Int) < (s.size : Int)) = false := decide_eq_false (by omega)
      rw [drop_end s i (by omega)] at i3
      simp only [ix2, Option.map_none] at i3
      rw [i3] at hL
      refine hgo_sound 60 ?_
      simp -implicitDefEqProofs (maxSteps := 1000000) only [simpS, ↓condJ_true, ↓condJ_false, ↓reduceIte, Nat.reduceEqDiff, Nat.reduceLT, Nat.reduceLeDiff, reduceCtorEq, Nat.reduceAdd, Nat.reduceSub, noneS, listS, implies_true, forall_const, ne_eq, hd]
      exact rn_fin hnx hwf ((Ext.refl σ).new _) rfl (x := ⟨7, a, s.size⟩) (by simp only [St.obj_new, if_true]; rfl) (by rw [hL]; simp only [Tk3.mk.injEq, true_and, List.length_drop, len_list]; omega)
  have e4 : (⟨#[83, 121, 115, 116, 101, 109, 46, 111, 117, 116, 46, 112, 114, 105, 110, 116, 108, 110]⟩ : ByteArray).data.toList = prnL := rfl
  have e5 : (⟨#[83, 121, 115, 116, 101, 109, 46, 111, 117, 116, 46, 112, 114, 105, 110, 116, 108, 110]⟩ : ByteArray).size = 18 := rfl
  have hw18 : IntKind.i64.wrap ((a : Int) + 18) = ((a + 18 : Nat) : Int) := by rw [IntWalk.i64_in _ (by omega)]; rfl
  have e18 : ((18 : Nat) : Int) = 18 := rfl
  have rest := rnW_ok s a ha hs σ M hP hr hnt hnx hwf
  refine hgo_sound 60 ?_
  simp -implicitDefEqProofs (maxSteps := 1000000) only [simpS, ↓condJ_true, ↓condJ_false, ↓reduceIte, Nat.reduceEqDiff, Nat.reduceLT, Nat.reduceLeDiff, reduceCtorEq, Nat.reduceAdd, Nat.reduceSub, noneS, listS, implies_true, forall_const, ne_eq]
  refine hx_call (f := .fn 55) rfl (by rw [hP]; exact hcallD_func (has_calls s ⟨#[83, 121, 115, 116, 101, 109, 46, 111, 117, 116, 46, 112, 114, 105, 110, 116, 108, 110]⟩ a (by omega) (by decide) (by decide) _)) ?_
  rintro _ σ2 ⟨rfl, h⟩
  subst σ2
  rw [e4]
  have rest2 : prnd (s.data.toList.drop a) = false → ∀ (e : Env), allW e (rnWE s a σ) → HX M (rnPost M s a σ) [.code rnC] e (σ.new (.bx none [.int .i64 0, .int .i64 0, .int .i64 0])) := fun hp e he =>
    hx_env (rnWE s a σ) he (rest hb h1 h2 hp) (fun _ e => by cases e) (fun _ e => by cases e)
  simp only [rnC, h45, tlC] at rest2
  cases h3 : prnL.isPrefixOf (s.data.toList.drop a)
  case false =>
    have hpf : prnd (s.data.toList.drop a) = false := by unfold prnd; rw [h3]; rfl
    refine hgo_sound 36 ?_
    simp -implicitDefEqProofs (maxSteps := 1000000) only [simpS, ↓condJ_true, ↓condJ_false, ↓reduceIte, Nat.reduceEqDiff, Nat.reduceLT, Nat.reduceLeDiff, reduceCtorEq, Nat.reduceAdd, Nat.reduceSub, noneS, listS, implies_true, forall_const, ne_eq, e5]
    exact rest2 hpf _ ⟨fun _ _ _ h => h, fun _ _ _ h => h, fun _ _ _ h => h, fun _ _ _ h => h, fun _ _ _ h => h, trivial⟩
  have hlen := (List.isPrefixOf_iff_prefix.1 h3).length_le
  rw [List.length_drop, len_list] at hlen
  simp only [List.length_cons, List.length_nil] at hlen
  by_cases hend : a + 18 = s.size
  · have hb18 : (((a + 18 : Nat) : Int) == (s.size : Int)) = true := by simp [hend]
    have hpt : prnd (s.data.toList.drop a) = true := by unfold prnd; rw [h3, List.drop_drop, drop_end s (a + 18) (by omega)]; rfl
    have hL : lexN (s.data.toList.drop a) = (3, 18) := by unfold lexN; rw [hh, hb, h1, h2, hpt]; rfl
    refine hgo_sound 60 ?_
    simp -implicitDefEqProofs (maxSteps := 1000000) only [simpS, ↓condJ_true, ↓condJ_false, ↓reduceIte, Nat.reduceEqDiff, Nat.reduceLT, Nat.reduceLeDiff, reduceCtorEq, Nat.reduceAdd, Nat.reduceSub, noneS, listS, implies_true, forall_const, ne_eq, e5, e18, hw18, hb18]
    exact rn_fin hnx hwf ((Ext.refl σ).new _) rfl (x := ⟨3, a, a + 18⟩) (by simp only [St.obj_new, if_true]; rfl) (by rw [hL])
  have hb18 : (((a + 18 : Nat) : Int) == (s.size : Int)) = false := by simp only [beq_eq_false_iff_ne, ne_eq]; omega
  have hl18 : ((a + 18 : Nat) : Int) < (s.size : Int) := by omega
  refine hgo_sound 60 ?_
  simp -implicitDefEqProofs (maxSteps := 1000000) only [simpS, ↓condJ_true, ↓condJ_false, ↓reduceIte, Nat.reduceEqDiff, Nat.reduceLT, Nat.reduceLeDiff, reduceCtorEq, Nat.reduceAdd, Nat.reduceSub, noneS, listS, implies_true, forall_const, ne_eq, e5, e18, hw18, hb18, hl18, Int.toNat_natCast, Int.natCast_nonneg]
  refine hx_call (f := .fn 56) rfl (by rw [hP]; exact hcallD_func (rinside_calls _ _)) ?_
  rintro _ σ2 ⟨rfl, h⟩
  subst σ2
  have hpi : prnd (s.data.toList.drop a) = !insP (s.data.getD (a + 18) 0) := by
    unfold prnd
    rw [h3, List.drop_drop, drop_cons1 s (a + 18) (by omega)]
    rfl
  cases h4 : insP (s.data.getD (a + 18) 0)
  · have hpt : prnd (s.data.toList.drop a) = true := by rw [hpi, h4]; rfl
    have hL : lexN (s.data.toList.drop a) = (3, 18) := by unfold lexN; rw [hh, hb, h1, h2, hpt]; rfl
    refine hgo_sound 60 ?_
    simp -implicitDefEqProofs (maxSteps := 1000000) only [simpS, ↓condJ_true, ↓condJ_false, ↓reduceIte, Nat.reduceEqDiff, Nat.reduceLT, Nat.reduceLeDiff, reduceCtorEq, Nat.reduceAdd, Nat.reduceSub, noneS, listS, implies_true, forall_const, ne_eq, e5, e18, hw18]
    exact rn_fin hnx hwf ((Ext.refl σ).new _) rfl (x := ⟨3, a, a + 18⟩) (by simp only [St.obj_new, if_true]; rfl) (by rw [hL])
  · have hpf : prnd (s.data.toList.drop a) = false := by rw [hpi, h4]; rfl
    refine hgo_sound 8 ?_
    simp -implicitDefEqProofs (maxSteps := 1000000) only [simpS, ↓condJ_true, ↓condJ_false, ↓reduceIte, Nat.reduceEqDiff, Nat.reduceLT, Nat.reduceLeDiff, reduceCtorEq, Nat.reduceAdd, Nat.reduceSub, noneS, listS, implies_true, forall_const, ne_eq, e5, e18, hw18]
    exact rest2 hpf _ ⟨fun _ _ _ h => h, fun _ _ _ h => h, fun _ _ _ h => h, fun _ _ _ h => h, fun _ _ _ h => h, trivial⟩

end Go.Hl
set_option linter.unusedSectionVars false
set_option linter.unusedVariables false
set_option linter.unusedSimpArgs false
set_option maxRecDepth 100000

namespace Go.Hl
open Go Go.Proofs Go.RowKit

structure RlI where
  c : List Tk3
  a : Nat

theorem rlist_calls (s : ByteArray) (hs : s.size ≤ 1073741824) (σ : St) : HCalls Tryz.prog 39 [.str s] σ (fun d σ' => d = .slice .no 3 (encTk (toks s.data.toList 0)) ∧ σ' = σ) := by
  refine hcalls_body (fn := Tryz.f39) rfl c39 (by simp [h39]) (by simp [h39, Tryz.f39]) ?_
  intro M hP hr hnt hnx hwf hlt
  simp only [h39, argEnv]
  have hnt' : M.nt = 20 := hnt
  refine hgo_sound 8 ?_
  simp -implicitDefEqProofs (maxSteps := 1000000) only [simpS, ↓condJ_true, ↓condJ_false, ↓reduceIte, Nat.reduceEqDiff, Nat.reduceLT, Nat.reduceLeDiff, reduceCtorEq, Nat.reduceAdd, Nat.reduceSub, noneS, listS, implies_true, forall_const, ne_eq]
  refine hx_full (t := 3) 91 3 rfl ?_ (fun _ e => by cases e) (fun _ e => by cases e)
  refine hgo_sound 60 ?_
  simp -implicitDefEqProofs (maxSteps := 1000000) only [simpS, ↓condJ_true, ↓condJ_false, ↓reduceIte, Nat.reduceEqDiff, Nat.reduceLT, Nat.reduceLeDiff, reduceCtorEq, Nat.reduceAdd, Nat.reduceSub, noneS, listS, implies_true, forall_const, ne_eq]
  refine hx_know_code fun hw hl hn => ?_
  have hS : ∀ n : Nat, (σ.new (.tok 91 n)).wf := fun n => hwf.new trivial
  refine hx_loop (S := RlI) (fun t => [(0, .str s), (3, .slice (.tok σ.next) 3 (encTk t.c)), (4, .int .i64 (t.a : Int))]) (fun t => σ.new (.tok 91 t.c.length))
    (fun t => t.a ≤ s.size ∧ t.c.length ≤ t.a ∧ toks s.data.toList 0 = t.c ++ toks (s.data.toList.drop t.a) t.a) (fun t => s.size - t.a) ⟨[], 0⟩
    ⟨Nat.zero_le _, Nat.le_refl _, rfl⟩ (fun _ _ h => by rw [hr] at h; cases h) ?_ ?_
  · exact Drop.all hw hn ⟨⟨rfl, trivial⟩, ⟨rfl, by simp only [D.lt, Own.lt, St.next_new]; exact ⟨by omega, trivial⟩⟩, ⟨rfl, trivial⟩, trivial⟩
  rintro ⟨c, a⟩ ⟨i1, i2, i3⟩
  simp only at i1 i2 i3 ⊢
  by_cases hi : a < s.size
  · have hd : decide ((a : Int) < (s.size : Int)) = true := decide_eq_true (by omega)
    have hne := drop_ne s a hi
    have hln := lexN_len _ hne
    rw [List.length_drop, len_list] at hln
    rw [toks_cons _ _ hne, List.drop_drop] at i3
    have hc := rnext_calls s a hi hs (σ.new (.tok 91 c.length))
    generalize lexN (s.data.toList.drop a) = kn at *
    obtain ⟨k, n⟩ := kn
    simp only at hln hc i3
    have hsz : (c.length + 1) * 24 ≤ 140737488355328 := by omega
    have hsz2 : c.length + 1 ≤ 9223372036854775807 := by omega
    refine hgo_sound 60 ?_
    simp -implicitDefEqProofs (maxSteps := 1000000) only [simpS, ↓condJ_true, ↓condJ_false, ↓reduceIte, Nat.reduceEqDiff, Nat.reduceLT, Nat.reduceLeDiff, reduceCtorEq, Nat.reduceAdd, Nat.reduceSub, noneS, listS, implies_true, forall_const, ne_eq, hd]
    refine hx_call (f := .fn 45) rfl (by rw [hP]; exact hcallD_func (hc)) ?_
    rintro _ σ2 ⟨rfl, h⟩
    subst σ2
    refine hgo_sound 60 ?_
    simp -implicitDefEqProofs (maxSteps := 1000000) only [simpS, ↓condJ_true, ↓condJ_false, ↓reduceIte, Nat.reduceEqDiff, Nat.reduceLT, Nat.reduceLeDiff, reduceCtorEq, Nat.reduceAdd, Nat.reduceSub, noneS, listS, implies_true, forall_const, ne_eq, encTk_length, hsz, hsz2]
    intro hw5 hl5 hn5
    refine ⟨⟨c ++ [⟨k, a, a + n⟩], a + n⟩, ⟨by simp only; omega, by simp only [List.length_append, List.length_cons, List.length_nil]; omega, by simp only [List.append_assoc, List.cons_append, List.nil_append]; exact i3⟩, by simp only; omega, ?_⟩
    simp only [List.length_append, List.length_cons, List.length_nil]
    refine Drop.allS (((Ext.refl _).new _).sub (hS _)) (hS _) (by rw [hnx, St.next_new]; omega) ⟨⟨rfl, trivial⟩, ⟨?_, by simp only [D.lt, Own.lt, St.next_new]; exact ⟨by omega, encTk_lt _ _⟩⟩, ⟨rfl, trivial⟩, trivial⟩
    rw [← encTk_snoc]
    rfl
  · have hd : decide ((a : Int) < (s.size : Int)) = false := decide_eq_false (by omega)
    rw [drop_end s a (by omega), toks_nil, List.append_nil] at i3
    rw [i3]
    refine hgo_sound 60 ?_
    simp -implicitDefEqProofs (maxSteps := 1000000) only [simpS, ↓condJ_true, ↓condJ_false, ↓reduceIte, Nat.reduceEqDiff, Nat.reduceLT, Nat.reduceLeDiff, reduceCtorEq, Nat.reduceAdd, Nat.reduceSub, noneS, listS, implies_true, forall_const, ne_eq, hd]
    exact fpost_strip (σ0 := σ) (ds := [.slice (.tok σ.next) 3 (encTk c)]) (Wk.refl _) (.inr rfl) (by rw [hnx]; exact Nat.le_refl _) hwf (((Ext.refl _).new _).sub hwf) rfl trivial (by simp only [tupD, frzD, if_true, D.lt, Own.lt]; exact ⟨trivial, encTk_lt _ _⟩) ⟨rfl, rfl⟩

end Go.Hl
set_option linter.unusedSectionVars false
set_option linter.unusedVariables false
set_option linter.unusedSimpArgs false
set_option maxRecDepth 100000
namespace Go.Hl
open Go Go.Proofs Go.RowKit

theorem toks_le (s : ByteArray) : (toks s.data.toList 0).length ≤ s.size := by
  have hl := toks_length s.size s.data.toList 0 (by rw [len_list]; exact Nat.le_refl _)
  rwa [len_list] at hl

end Go.Hl
set_option linter.unusedSectionVars false
set_option linter.unusedVariables false
set_option linter.unusedSimpArgs false
set_option maxRecDepth 100000

namespace Go.Hl
open Go Go.Proofs Go.RowKit

def badAt : List Tk3 → Option Nat
  | [] => none
  | x :: r => if x.k = 7 then some x.f else badAt r
def isReal (x : Tk3) : Bool := decide (2 < x.k)
def realsL (l : List Tk3) : List Tk3 := l.filter isReal

theorem wordK_pos (s : ByteArray) : 1 ≤ wordK s ∧ wordK s ≤ 7 := by
  unfold wordK
  split
  · simp
  split
  · simp
  split <;> simp
theorem lexN_kind (l : List UInt8) : 1 ≤ (lexN l).1 ∧ (lexN l).1 ≤ 7 := by
  unfold lexN
  split
  · simp
  split
  · simp
  split
  · split <;> simp
  split
  · simp
  split
  · exact wordK_pos _
  split
  · simp
  split <;> simp
theorem toks_kind : ∀ (n : Nat) (l : List UInt8) (a : Nat), l.length ≤ n → ∀ x ∈ toks l a, 1 ≤ x.k ∧ x.k ≤ 7 ∧ a ≤ x.f ∧ x.f < x.t ∧ x.t ≤ a + l.length
  | 0, l, a, h, x, hx => by
    have : l = [] := List.length_eq_zero_iff.1 (by omega)
    subst this
    simp [toks_nil] at hx
  | n + 1, l, a, h, x, hx => by
    by_cases hl : l = []
    · subst hl; simp [toks_nil] at hx
    · have h1 := lexN_len l hl
      have h2 := lexN_kind l
      rw [toks_cons l a hl] at hx
      rcases List.mem_cons.1 hx with rfl | hx
      · simp only; omega
      · have := toks_kind n (l.drop (lexN l).2) (a + (lexN l).2) (by rw [List.length_drop]; omega) x hx
        rw [List.length_drop] at this
        omega
theorem toksS (s : ByteArray) : ∀ x ∈ toks s.data.toList 0, 1 ≤ x.k ∧ x.k ≤ 7 ∧ x.f < x.t ∧ x.t ≤ s.size := fun x hx => by
  have := toks_kind s.size s.data.toList 0 (by rw [len_list]; exact Nat.le_refl _) x hx
  rw [len_list] at this
  omega

theorem realsL_le (l : List Tk3) : (realsL l).length ≤ l.length := List.length_filter_le _ _

def realR (l : List Tk3) : List Tk3 := match badAt l with | some _ => [] | none => realsL l
def realA (l : List Tk3) : Nat := match badAt l with | some f => f | none => 0
def realE (l : List Tk3) : Int := match badAt l with | some f => 2 | none => 0

structure RqS where
  c : List Tk3
  b : Option Nat

def rqStep (t : RqS) (x : Tk3) : RqS × Option HC :=
  if x.k = 7 then (⟨t.c, some x.f⟩, some .ret) else if x.k = 1 ∨ x.k = 2 then (t, none) else (⟨t.c ++ [x], t.b⟩, none)
theorem rqStep_run : ∀ (l : List Tk3) (c : List Tk3), (∀ x ∈ l, 1 ≤ x.k) →
    ∃ c', rngRun rqStep ⟨c, none⟩ l = match badAt l with | some f => (⟨c', some f⟩, some .ret) | none => (⟨c ++ realsL l, none⟩, none)
  | [], c, _ => ⟨c, by simp [rngRun, badAt, realsL]⟩
  | x :: l, c, h => by
    have hx := h x (List.mem_cons_self ..)
    have hl : ∀ y ∈ l, 1 ≤ y.k := fun y hy => h y (List.mem_cons_of_mem _ hy)
    simp only [rngRun, rqStep, badAt]
    by_cases h7 : x.k = 7
    · rw [if_pos h7, if_pos h7]
      exact ⟨c, rfl⟩
    · rw [if_neg h7, if_neg h7]
      by_cases h12 : x.k = 1 ∨ x.k = 2
      · rw [if_pos h12]
        simp only
        obtain ⟨c', hc⟩ := rqStep_run l c hl
        have hf : isReal x = false := by unfold isReal; exact decide_eq_false (by omega)
        refine ⟨c', ?_⟩
        rw [hc]
        simp only [realsL, List.filter_cons, hf, Bool.false_eq_true, if_false]
      · rw [if_neg h12]
        simp only
        obtain ⟨c', hc⟩ := rqStep_run l (c ++ [x]) hl
        have hf : isReal x = true := by unfold isReal; exact decide_eq_true (by omega)
        refine ⟨c', ?_⟩
        rw [hc]
        simp only [realsL, List.filter_cons, hf, if_true, List.append_assoc, List.cons_append, List.nil_append]
theorem rqStep_oks : ∀ (l : List Tk3) (t : RqS), t.b = none → t.c.length + l.length ≤ 1073741824 → rngOks (fun (t : RqS) (x : Tk3) => t.c.length + 1 ≤ 1073741824 ∧ t.b = none) rqStep t l
  | [], t, _, _ => trivial
  | x :: xs, t, hb, h => by
    simp only [List.length_cons] at h
    refine ⟨⟨by omega, hb⟩, fun hn => ?_⟩
    unfold rqStep at hn ⊢
    split
    · rename_i h7
      rw [if_pos h7] at hn
      cases hn
    · split
      · exact rqStep_oks xs t hb (by omega)
      · exact rqStep_oks xs _ hb (by simp only [List.length_append, List.length_cons, List.length_nil]; omega)

def rqErr : Option Nat → D
  | some _ => .iface 55 (.int .i64 2)
  | none => .nili
def rqAt : Option Nat → Int
  | some f => f
  | none => 0
def rqS (σ : St) (t : RqS) : St :=
  ((((σ.new (.bx none [.slice .nil 0 []])).new (.bx none [.int .i64 (rqAt t.b)])).new (.bx none [rqErr t.b])).new (.bx none [.slice (.tok (σ.next + 4)) 3 (encTk t.c)])).new (.tok 88 t.c.length)
theorem rqS_next (σ : St) (t : RqS) : (rqS σ t).next = σ.next + 5 := rfl
theorem rqS_wf {σ : St} (hw : σ.wf) (t : RqS) : (rqS σ t).wf := by
  refine St.wf.new2 (((hw.box (cs := [.slice .nil 0 []]) ⟨⟨trivial, trivial⟩, trivial⟩).box (cs := [.int .i64 (rqAt t.b)]) ⟨trivial, trivial⟩).box (cs := [rqErr t.b]) ⟨by cases t.b <;> trivial, trivial⟩) ?_ trivial
  refine ⟨⟨?_, encTk_lt _ _⟩, trivial⟩
  show σ.next + 4 < σ.next + 3 + 2
  omega
theorem rqS_ext (σ : St) (t : RqS) : Ext σ (rqS σ t) := (((((Ext.refl σ).new _).new _).new _).new _).new _
theorem rqS_0 (σ : St) (t : RqS) : (rqS σ t).obj σ.next = some (.bx none [.slice .nil 0 []]) := by simp only [rqS, simpS, ↓condJ_true, ↓condJ_false, ↓reduceIte, Nat.reduceEqDiff, Nat.reduceLT, Nat.reduceLeDiff, reduceCtorEq, Nat.reduceAdd, Nat.reduceSub, noneS, listS, implies_true, forall_const, ne_eq]
theorem rqS_1 (σ : St) (t : RqS) : (rqS σ t).obj (σ.next + 1) = some (.bx none [.int .i64 (rqAt t.b)]) := by simp only [rqS, simpS, ↓condJ_true, ↓condJ_false, ↓reduceIte, Nat.reduceEqDiff, Nat.reduceLT, Nat.reduceLeDiff, reduceCtorEq, Nat.reduceAdd, Nat.reduceSub, noneS, listS, implies_true, forall_const, ne_eq]
theorem rqS_2 (σ : St) (t : RqS) : (rqS σ t).obj (σ.next + 2) = some (.bx none [rqErr t.b]) := by simp only [rqS, simpS, ↓condJ_true, ↓condJ_false, ↓reduceIte, Nat.reduceEqDiff, Nat.reduceLT, Nat.reduceLeDiff, reduceCtorEq, Nat.reduceAdd, Nat.reduceSub, noneS, listS, implies_true, forall_const, ne_eq]
theorem rqS_3 (σ : St) (t : RqS) : (rqS σ t).obj (σ.next + 3) = some (.bx none [.slice (.tok (σ.next + 4)) 3 (encTk t.c)]) := by simp only [rqS, simpS, ↓condJ_true, ↓condJ_false, ↓reduceIte, Nat.reduceEqDiff, Nat.reduceLT, Nat.reduceLeDiff, reduceCtorEq, Nat.reduceAdd, Nat.reduceSub, noneS, listS, implies_true, forall_const, ne_eq]
theorem rqS_4 (σ : St) (t : RqS) : (rqS σ t).obj (σ.next + 4) = some (.tok 88 t.c.length) := by simp only [rqS, simpS, ↓condJ_true, ↓condJ_false, ↓reduceIte, Nat.reduceEqDiff, Nat.reduceLT, Nat.reduceLeDiff, reduceCtorEq, Nat.reduceAdd, Nat.reduceSub, noneS, listS, implies_true, forall_const, ne_eq]

set_option maxHeartbeats 4000000 in
theorem real_calls (s : ByteArray) (hs : s.size ≤ 1073741824) (σ : St) (hg : GM σ) : HCalls Tryz.prog 21 [.str s] σ (fun d σ' => d = .tuple [.slice .no 3 (encTk (realR (toks s.data.toList 0))), .int .i64 (realA (toks s.data.toList 0) : Nat), erD (realE (toks s.data.toList 0))] ∧ σ' = σ) := by
  refine hcalls_body (fn := Tryz.f21) rfl c21 (by simp [h21]) (by simp [h21, Tryz.f21]) ?_
  intro M hP hr hnt hnx hwf hlt
  simp only [h21, argEnv]
  have hit := all_iter s hs σ.glob (fun _ h => hg.to h)
  have hkd : ∀ x ∈ toks s.data.toList 0, 1 ≤ x.k := fun x hx => (toksS s x hx).1
  have hle := toks_le s
  obtain ⟨c', hrun⟩ := rqStep_run (toks s.data.toList 0) [] hkd
  unfold realR realA realE
  generalize toks s.data.toList 0 = W at *
  refine hgo_sound 10 ?_
  simp -implicitDefEqProofs (maxSteps := 1000000) only [simpS, ↓condJ_true, ↓condJ_false, ↓reduceIte, Nat.reduceEqDiff, Nat.reduceLT, Nat.reduceLeDiff, reduceCtorEq, Nat.reduceAdd, Nat.reduceSub, noneS, listS, implies_true, forall_const, ne_eq]
  refine hx_full_box (id := σ.next + 3) (j := 0) (cs := [.slice .nil 0 []]) (ot := none) 88 3 (by simp -implicitDefEqProofs (maxSteps := 1000000) only [simpS, ↓condJ_true, ↓condJ_false, ↓reduceIte, Nat.reduceEqDiff, Nat.reduceLT, Nat.reduceLeDiff, reduceCtorEq, Nat.reduceAdd, Nat.reduceSub, noneS, listS, implies_true, forall_const, ne_eq]) rfl ?_ (fun _ e => by cases e) (fun _ e => by cases e)
  refine hgo_sound 8 ?_
  simp -implicitDefEqProofs (maxSteps := 1000000) only [simpS, ↓condJ_true, ↓condJ_false, ↓reduceIte, Nat.reduceEqDiff, Nat.reduceLT, Nat.reduceLeDiff, reduceCtorEq, Nat.reduceAdd, Nat.reduceSub, noneS, listS, implies_true, forall_const, ne_eq]
  refine hx_call (f := .fn 38) rfl (by rw [hP]; exact hcallD_func (all_calls s _)) ?_
  rintro _ σ2 ⟨rfl, h⟩
  subst σ2
  refine hgo_sound 6 ?_
  simp -implicitDefEqProofs (maxSteps := 1000000) only [simpS, ↓condJ_true, ↓condJ_false, ↓reduceIte, Nat.reduceEqDiff, Nat.reduceLT, Nat.reduceLeDiff, reduceCtorEq, Nat.reduceAdd, Nat.reduceSub, noneS, listS, implies_true, forall_const, ne_eq]
  refine hx_know_code fun hw hl hn => ?_
  refine hx_range_foldA (fn := 43) (caps := [.eptr [.str s] 0]) (xs := W) (enc := fun x => [D.agg (encK3 x)]) (fun t : RqS => rqS σ t)
    (fun (t : RqS) (x : Tk3) => t.c.length + 1 ≤ 1073741824 ∧ t.b = none) rqStep ⟨[], none⟩ rfl (by rw [hP]; rfl) (fun _ _ h => by rw [hr] at h; cases h) (by rw [hP]; exact hit) ?_
    (fun c => rfl) (fun c c' => rfl) (fun t => rqS_wf hwf t) hl (rqStep_oks _ _ rfl (by simp only [List.length_nil]; omega)) (fun _ => rfl) (by rw [hnt]; decide) ?_ ?_
  · refine St.ext' (fun q => ?_) rfl rfl
    simp only [rqS, St.obj_new, St.obj_put, St.next_new, Nat.add_assoc, Nat.reduceAdd, rqAt, rqErr]
    by_cases q1 : q = σ.next + 3
    · simp [q1, encTk]
    · by_cases q2 : q = σ.next + 4 <;> simp [q1, q2]
  · rintro ⟨c, bo⟩ x ρ ⟨hk, rfl⟩ hle2 hτ hgl2 M' hP' hnt2 hr' hnx' hwf' hlt'
    simp only at hk
    simp only [St.next_new, St.next_put, Nat.add_assoc, Nat.reduceAdd, rqS_next] at hle2 hl ⊢
    simp only [putsE]
    have hnt3 : M'.nt = 25 := by rw [hnt2]; exact hnt
    have n1 : ¬ ρ.next < σ.next + 6 := by omega
    have n2 : ¬ ρ.next + 1 < σ.next + 6 := by omega
    have hsz : (c.length + 1) * 24 ≤ 140737488355328 := by omega
    have hsz2 : c.length + 1 ≤ 9223372036854775807 := by omega
    unfold rqStep
    by_cases h7 : x.k = 7
    · have hb7 : ((x.k : Int) == 7) = true := by rw [h7]; rfl
      rw [if_pos h7]
      refine hgo_sound 60 ?_
      simp -implicitDefEqProofs (maxSteps := 1000000) only [simpS, ↓condJ_true, ↓condJ_false, ↓reduceIte, Nat.reduceEqDiff, Nat.reduceLT, Nat.reduceLeDiff, reduceCtorEq, Nat.reduceAdd, Nat.reduceSub, noneS, listS, implies_true, forall_const, ne_eq, hle2, n1, rqS_next]
      refine hgo_sound 60 ?_
      simp -implicitDefEqProofs (maxSteps := 1000000) only [simpS, ↓condJ_true, ↓condJ_false, ↓reduceIte, Nat.reduceEqDiff, Nat.reduceLT, Nat.reduceLeDiff, reduceCtorEq, Nat.reduceAdd, Nat.reduceSub, noneS, listS, implies_true, forall_const, ne_eq, hle2, n1, n2, rqS_next, hb7]
      refine hx_drawgo 4 ?_
      simp -implicitDefEqProofs (maxSteps := 3000000) only [drawS, listS, List.getElem?_cons_zero, List.getElem?_cons_succ, List.getElem?_nil, simpS, ↓condJ_true, ↓condJ_false, ↓reduceIte, Nat.reduceEqDiff, Nat.reduceLT, Nat.reduceLeDiff, reduceCtorEq, Nat.reduceAdd, Nat.reduceSub, noneS, listS, implies_true, forall_const, ne_eq, hnt3, hle2, n1, n2, rqS_next, rqS_0, rqS_1, rqS_2, rqS_3, rqS_4]
      refine hx_ret (round_ret (n := σ.next + 5) ?_ rfl (rqS_wf hwf ⟨c, some x.f⟩) hl hτ hle2 ((Ext.refl ρ).new _))
      refine St.ext' (fun q => ?_) rfl rfl
      simp only [rqS, St.obj_new, St.obj_put, St.next_new, St.next_put, Nat.add_assoc, Nat.reduceAdd, rqAt, rqErr]
      by_cases q1 : q = σ.next
      · simp [q1]
      · by_cases q2 : q = σ.next + 1
        · simp [q2]
        · by_cases q3 : q = σ.next + 2 <;> simp [q1, q2, q3]
    · have hb7 : ((x.k : Int) == 7) = false := by simp only [beq_eq_false_iff_ne, ne_eq]; omega
      rw [if_neg h7]
      by_cases h1 : x.k = 1
      · have hb1 : ((x.k : Int) == 1) = true := by rw [h1]; rfl
        rw [if_pos (.inl h1)]
        refine hgo_sound 60 ?_
        simp -implicitDefEqProofs (maxSteps := 1000000) only [simpS, ↓condJ_true, ↓condJ_false, ↓reduceIte, Nat.reduceEqDiff, Nat.reduceLT, Nat.reduceLeDiff, reduceCtorEq, Nat.reduceAdd, Nat.reduceSub, noneS, listS, implies_true, forall_const, ne_eq, hle2, n1, rqS_next]
        refine hgo_sound 60 ?_
        simp -implicitDefEqProofs (maxSteps := 1000000) only [simpS, ↓condJ_true, ↓condJ_false, ↓reduceIte, Nat.reduceEqDiff, Nat.reduceLT, Nat.reduceLeDiff, reduceCtorEq, Nat.reduceAdd, Nat.reduceSub, noneS, listS, implies_true, forall_const, ne_eq, hle2, n1, n2, rqS_next, rqS_0, rqS_1, rqS_2, rqS_3, rqS_4, hb7, hb1]
        exact round_next rfl rfl (rqS_wf hwf ⟨c, none⟩) hl hτ hle2 ((Ext.refl ρ).new _)
      · have hb1 : ((x.k : Int) == 1) = false := by simp only [beq_eq_false_iff_ne, ne_eq]; omega
        by_cases h2 : x.k = 2
        · have hb2 : ((x.k : Int) == 2) = true := by rw [h2]; rfl
          rw [if_pos (.inr h2)]
          refine hgo_sound 60 ?_
          simp -implicitDefEqProofs (maxSteps := 1000000) only [simpS, ↓condJ_true, ↓condJ_false, ↓reduceIte, Nat.reduceEqDiff, Nat.reduceLT, Nat.reduceLeDiff, reduceCtorEq, Nat.reduceAdd, Nat.reduceSub, noneS, listS, implies_true, forall_const, ne_eq, hle2, n1, rqS_next]
          refine hgo_sound 60 ?_
          simp -implicitDefEqProofs (maxSteps := 1000000) only [simpS, ↓condJ_true, ↓condJ_false, ↓reduceIte, Nat.reduceEqDiff, Nat.reduceLT, Nat.reduceLeDiff, reduceCtorEq, Nat.reduceAdd, Nat.reduceSub, noneS, listS, implies_true, forall_const, ne_eq, hle2, n1, n2, rqS_next, rqS_0, rqS_1, rqS_2, rqS_3, rqS_4, hb7, hb1, hb2]
          exact round_next rfl rfl (rqS_wf hwf ⟨c, none⟩) hl hτ hle2 ((Ext.refl ρ).new _)
        · have hb2 : ((x.k : Int) == 2) = false := by simp only [beq_eq_false_iff_ne, ne_eq]; omega
          rw [if_neg (by omega)]
          refine hgo_sound 60 ?_
          simp -implicitDefEqProofs (maxSteps := 1000000) only [simpS, ↓condJ_true, ↓condJ_false, ↓reduceIte, Nat.reduceEqDiff, Nat.reduceLT, Nat.reduceLeDiff, reduceCtorEq, Nat.reduceAdd, Nat.reduceSub, noneS, listS, implies_true, forall_const, ne_eq, hle2, n1, rqS_next]
          refine hgo_sound 60 ?_
          simp -implicitDefEqProofs (maxSteps := 1000000) only [simpS, ↓condJ_true, ↓condJ_false, ↓reduceIte, Nat.reduceEqDiff, Nat.reduceLT, Nat.reduceLeDiff, reduceCtorEq, Nat.reduceAdd, Nat.reduceSub, noneS, listS, implies_true, forall_const, ne_eq, hle2, n1, n2, rqS_next, rqS_0, rqS_1, rqS_2, rqS_3, rqS_4, hb7, hb1, hb2, encTk_length, hsz, hsz2]
          refine round_next ?_ rfl (rqS_wf hwf ⟨c ++ [x], none⟩) hl hτ hle2 ((Ext.refl ρ).new _)
          refine St.ext' (fun q => ?_) rfl rfl
          simp only [rqS, St.obj_new, St.obj_put, St.next_new, St.next_put, Nat.add_assoc, Nat.reduceAdd, rqAt, rqErr, ← encTk_snoc, List.length_append, List.length_cons, List.length_nil]
          by_cases q1 : q = σ.next + 3
          · simp [q1]
          · by_cases q2 : q = σ.next + 4 <;> simp [q1, q2]
  · rw [hrun]
    cases hb : badAt W with
    | some f =>
      refine hx_ret ?_
      exact fpost_wk (σ0 := σ) (ds := [.slice .nil 0 [], .int .i64 (f : Int), .iface 55 (.int .i64 2)]) (Wk.tuple (WkL.cons Wk.nil (WkL.refl _))) (.inr rfl) (by rw [hnx]; exact Nat.le_refl _) hwf ((rqS_ext σ _).bump.sub hwf)
        (resD_cell rfl (rqS_0 ..) (resD_cell rfl (rqS_1 ..) (resD_cell rfl (rqS_2 ..) resD_nil))) ⟨by decide, by decide, by decide, trivial⟩ ⟨⟨trivial, trivial⟩, trivial, trivial, trivial⟩ ⟨rfl, rfl⟩
    | none =>
      refine hx_inBlock ?_
      refine hgo_sound 60 ?_
      simp -implicitDefEqProofs (maxSteps := 1000000) only [simpS, ↓condJ_true, ↓condJ_false, ↓reduceIte, Nat.reduceEqDiff, Nat.reduceLT, Nat.reduceLeDiff, reduceCtorEq, Nat.reduceAdd, Nat.reduceSub, noneS, listS, implies_true, forall_const, ne_eq, rqS_next, rqS_0, rqS_1, rqS_2, rqS_3, rqS_4]
      exact fpost_strip (σ0 := σ) (ds := [.slice (.tok (σ.next + 4)) 3 (encTk (realsL W)), .int .i64 0, .nili]) (Wk.refl _) (.inr rfl) (by rw [hnx]; exact Nat.le_refl _) hwf ((((rqS_ext σ _).put (Nat.le_refl _) _).put (Nat.le_succ _) _).put (by omega) _ |>.bump.sub hwf)
        (resD_cell rfl (by simp [St.obj_bump, St.obj_put]) (resD_cell rfl (by simp [St.obj_bump, St.obj_put]) (resD_cell rfl (by simp [St.obj_bump, St.obj_put]) resD_nil))) ⟨by decide, by decide, by decide, trivial⟩ ⟨⟨trivial, encTk_lt _ _⟩, trivial, trivial, trivial⟩ ⟨rfl, rfl⟩

structure RrS where
  c : List Tk3
  i : Nat

theorem reals_split (l : List Tk3) (i : Nat) (h : i < l.length) : realsL (l.drop i) = (if isReal l[i] then [l[i]] else []) ++ realsL (l.drop (i + 1)) := by
  rw [List.drop_eq_getElem_cons h]
  simp only [realsL, List.filter_cons]
  split <;> simp_all
theorem badAt_split (l : List Tk3) (i : Nat) (h : i < l.length) : badAt (l.drop i) = if l[i].k = 7 then some l[i].f else badAt (l.drop (i + 1)) := by
  rw [List.drop_eq_getElem_cons h]
  rfl

set_option maxHeartbeats 4000000 in
theorem rreal_calls (s : ByteArray) (hs : s.size ≤ 1073741824) (σ : St) : HCalls Tryz.prog 22 [.str s] σ (fun d σ' => d = .tuple [.slice .no 3 (encTk (realR (toks s.data.toList 0))), .int .i64 (realA (toks s.data.toList 0) : Nat), .bool (decide (realE (toks s.data.toList 0) = 0))] ∧ σ' = σ) := by
  refine hcalls_body (fn := Tryz.f22) rfl c22 (by simp [h22]) (by simp [h22, Tryz.f22]) ?_
  intro M hP hr hnt hnx hwf hlt
  simp only [h22, argEnv]
  have hnt' : M.nt = 41 := hnt
  have hle := toks_le s
  unfold realR realA realE
  refine hgo_sound 60 ?_
  simp -implicitDefEqProofs (maxSteps := 1000000) only [simpS, ↓condJ_true, ↓condJ_false, ↓reduceIte, Nat.reduceEqDiff, Nat.reduceLT, Nat.reduceLeDiff, reduceCtorEq, Nat.reduceAdd, Nat.reduceSub, noneS, listS, implies_true, forall_const, ne_eq]
  refine hx_call (f := .fn 39) rfl (by rw [hP]; exact hcallD_func (rlist_calls s hs _)) ?_
  rintro _ σ2 ⟨rfl, h⟩
  subst σ2
  generalize toks s.data.toList 0 = W at *
  refine hgo_sound 8 ?_
  simp -implicitDefEqProofs (maxSteps := 1000000) only [simpS, ↓condJ_true, ↓condJ_false, ↓reduceIte, Nat.reduceEqDiff, Nat.reduceLT, Nat.reduceLeDiff, reduceCtorEq, Nat.reduceAdd, Nat.reduceSub, noneS, listS, implies_true, forall_const, ne_eq]
  refine hx_full (t := 6) 91 3 rfl ?_ (fun _ e => by cases e) (fun _ e => by cases e)
  refine hgo_sound 60 ?_
  simp -implicitDefEqProofs (maxSteps := 1000000) only [simpS, ↓condJ_true, ↓condJ_false, ↓reduceIte, Nat.reduceEqDiff, Nat.reduceLT, Nat.reduceLeDiff, reduceCtorEq, Nat.reduceAdd, Nat.reduceSub, noneS, listS, implies_true, forall_const, ne_eq]
  refine hx_know_code fun hw hl hn => ?_
  have hS : ∀ n : Nat, (σ.new (.tok 91 n)).wf := fun n => hwf.new trivial
  refine hx_loop (S := RrS) (fun t => [(5, .slice .no 3 (encTk W)), (6, .slice (.tok σ.next) 3 (encTk t.c)), (7, .int .i64 (t.i : Int))]) (fun t => σ.new (.tok 91 t.c.length))
    (fun t => t.i ≤ W.length ∧ t.c.length ≤ t.i ∧ badAt W = badAt (W.drop t.i) ∧ realsL W = t.c ++ realsL (W.drop t.i)) (fun t => W.length - t.i) ⟨[], 0⟩
    ⟨Nat.zero_le _, Nat.le_refl _, rfl, rfl⟩ (fun _ _ h => by rw [hr] at h; cases h) ?_ ?_
  · exact Drop.all hw hn ⟨⟨rfl, encTk_slt _ _⟩, ⟨rfl, by simp only [D.lt, Own.lt, St.next_new]; exact ⟨by omega, trivial⟩⟩, ⟨rfl, trivial⟩, trivial⟩
  rintro ⟨c, i⟩ ⟨i1, i2, i3, i4⟩
  simp only at i1 i2 i3 i4 ⊢
  by_cases hi : i < W.length
  · have hd : decide ((i : Int) < (W.length : Int)) = true := decide_eq_true (by omega)
    have hi' : (i : Int) < (W.length : Int) := by omega
    have hg := encTk_get W i hi
    have hwi : IntKind.i64.wrap ((i : Int) + 1) = ((i + 1 : Nat) : Int) := by rw [IntWalk.i64_in _ (by omega)]; rfl
    have hsz : (c.length + 1) * 24 ≤ 140737488355328 := by omega
    have hsz2 : c.length + 1 ≤ 9223372036854775807 := by omega
    rw [badAt_split W i hi] at i3
    rw [reals_split W i hi] at i4
    by_cases h7 : W[i].k = 7
    · have hb7 : ((W[i].k : Int) == 7) = true := by rw [h7]; rfl
      rw [if_pos h7] at i3
      rw [i3]
      refine hgo_sound 60 ?_
      simp -implicitDefEqProofs (maxSteps := 1000000) only [simpS, ↓condJ_true, ↓condJ_false, ↓reduceIte, Nat.reduceEqDiff, Nat.reduceLT, Nat.reduceLeDiff, reduceCtorEq, Nat.reduceAdd, Nat.reduceSub, noneS, listS, implies_true, forall_const, ne_eq, hd, hi', hi, hg, hb7, encTk_length, Int.toNat_natCast, Int.natCast_nonneg]
      refine hx_drawgo 1 ?_
      simp -implicitDefEqProofs (maxSteps := 100000000) only [drawS, listS, List.getElem?_cons_zero, List.getElem?_cons_succ, List.getElem?_nil, simpS, ↓condJ_true, ↓condJ_false, ↓reduceIte, Nat.reduceEqDiff, Nat.reduceLT, Nat.reduceLeDiff, reduceCtorEq, Nat.reduceAdd, Nat.reduceSub, noneS, listS, implies_true, forall_const, ne_eq, hnt', hi', hi, hg, encTk_length, Int.toNat_natCast, Int.natCast_nonneg]
      refine hx_ret ?_
      exact fpost_wk (σ0 := σ) (ds := [.slice .nil 0 [], .int .i64 (W[i].f : Int), .bool false]) (Wk.tuple (WkL.cons Wk.nil (WkL.refl _))) (.inr rfl) (by rw [hnx]; exact Nat.le_refl _) hwf (((Ext.refl _).new _).sub hwf) rfl trivial ⟨⟨trivial, trivial⟩, trivial, trivial, trivial⟩ ⟨rfl, rfl⟩
    · have hb7 : ((W[i].k : Int) == 7) = false := by simp only [beq_eq_false_iff_ne, ne_eq]; omega
      rw [if_neg h7] at i3
      by_cases h2 : 2 < W[i].k
      · have hb2 : decide ((W[i].k : Int) > 2) = true := decide_eq_true (by omega)
        have hir : isReal W[i] = true := decide_eq_true h2
        rw [hir, if_pos rfl] at i4
        refine hgo_sound 90 ?_
        simp -implicitDefEqProofs (maxSteps := 1000000) only [simpS, ↓condJ_true, ↓condJ_false, ↓reduceIte, Nat.reduceEqDiff, Nat.reduceLT, Nat.reduceLeDiff, reduceCtorEq, Nat.reduceAdd, Nat.reduceSub, noneS, listS, implies_true, forall_const, ne_eq, hd, hi', hi, hg, hb7, hb2, hwi, hsz, hsz2, encTk_length, Int.toNat_natCast, Int.natCast_nonneg]
        intro hw5 hl5 hn5
        refine ⟨⟨c ++ [W[i]], i + 1⟩, ⟨by simp only; omega, by simp only [List.length_append, List.length_cons, List.length_nil]; omega, i3, by simp only [List.append_assoc]; exact i4⟩, by simp only; omega, ?_⟩
        simp only [List.length_append, List.length_cons, List.length_nil]
        refine Drop.all hw5 hn5 ⟨⟨rfl, encTk_slt _ _⟩, ⟨?_, by simp only [D.lt, Own.lt, St.next_new]; exact ⟨by omega, encTk_lt _ _⟩⟩, ⟨rfl, trivial⟩, trivial⟩
        rw [← encTk_snoc]
        rfl
      · have hb2 : decide ((W[i].k : Int) > 2) = false := decide_eq_false (by omega)
        have hir : isReal W[i] = false := decide_eq_false h2
        rw [hir] at i4
        refine hgo_sound 90 ?_
        simp -implicitDefEqProofs (maxSteps := 1000000) only [simpS, ↓condJ_true, ↓condJ_false, ↓reduceIte, Nat.reduceEqDiff, Nat.reduceLT, Nat.reduceLeDiff, reduceCtorEq, Nat.reduceAdd, Nat.reduceSub, noneS, listS, implies_true, forall_const, ne_eq, hd, hi', hi, hg, hb7, hb2, hwi, encTk_length, Int.toNat_natCast, Int.natCast_nonneg]
        intro hw5 hl5 hn5
        refine ⟨⟨c, i + 1⟩, ⟨by simp only; omega, by simp only; omega, i3, i4⟩, by simp only; omega, ?_⟩
        exact Drop.all hw5 hn5 ⟨⟨rfl, encTk_slt _ _⟩, ⟨rfl, by simp only [D.lt, Own.lt, St.next_new]; exact ⟨by omega, encTk_lt _ _⟩⟩, ⟨rfl, trivial⟩, trivial⟩
  · have hd : decide ((i : Int) < (W.length : Int)) = false := decide_eq_false (by omega)
    have hdr : W.drop i = [] := List.drop_eq_nil_of_le (by omega)
    rw [hdr] at i3 i4
    simp only [badAt, realsL, List.filter_nil, List.append_nil] at i3 i4
    rw [i3]
    have e4 : realsL W = c := i4
    subst e4
    refine hgo_sound 60 ?_
    simp -implicitDefEqProofs (maxSteps := 1000000) only [simpS, ↓condJ_true, ↓condJ_false, ↓reduceIte, Nat.reduceEqDiff, Nat.reduceLT, Nat.reduceLeDiff, reduceCtorEq, Nat.reduceAdd, Nat.reduceSub, noneS, listS, implies_true, forall_const, ne_eq, hd, encTk_length]
    exact fpost_strip (σ0 := σ) (ds := [.slice (.tok σ.next) 3 (encTk (realsL W)), .int .i64 0, .bool true]) (Wk.refl _) (.inr rfl) (by rw [hnx]; exact Nat.le_refl _) hwf (((Ext.refl _).new _).sub hwf) rfl trivial ⟨⟨trivial, encTk_lt _ _⟩, trivial, trivial, trivial⟩ ⟨rfl, rfl⟩

end Go.Hl
set_option linter.unusedSectionVars false
set_option linter.unusedVariables false
set_option linter.unusedSimpArgs false
set_option maxRecDepth 100000
namespace Go.Hl
open Go Go.Proofs Go.RowKit

def textT (s : ByteArray) (x : Tk3) : ByteArray := s.extract x.f x.t

theorem ttext_calls (s : ByteArray) (x : Tk3) (h1 : x.f ≤ x.t) (h2 : x.t ≤ s.size) (σ : St) : HCalls Tryz.prog 40 [.agg (encK3 x), .str s] σ (fun d σ' => d = .str (textT s x) ∧ σ' = σ) := by
  refine hcalls_body (fn := Tryz.f40) rfl c40 (by simp [h40]) (by simp [h40, Tryz.f40]) ?_
  intro M hP hr hnt hnx hwf hlt
  simp only [h40, argEnv]
  have d1 : decide ((x.f : Int) < 0) = false := decide_eq_false (by omega)
  have d2 : decide ((x.f : Int) > (x.t : Int)) = false := decide_eq_false (by omega)
  have d3 : decide ((x.t : Int) > (s.size : Int)) = false := decide_eq_false (by omega)
  have p1 : (0 : Int) ≤ (x.t : Int) ∧ (x.t : Int) ≤ (s.size : Int) ∧ (0 : Int) ≤ (x.f : Int) ∧ (x.f : Int) ≤ (x.t : Int) := by omega
  refine hgo_sound 90 ?_
  simp -implicitDefEqProofs (maxSteps := 1000000) only [simpS, ↓condJ_true, ↓condJ_false, ↓reduceIte, Nat.reduceEqDiff, Nat.reduceLT, Nat.reduceLeDiff, reduceCtorEq, Nat.reduceAdd, Nat.reduceSub, noneS, listS, implies_true, forall_const, ne_eq, d1, d2, d3, p1.1, p1.2.1, p1.2.2.1, p1.2.2.2, Int.toNat_natCast]
  exact fpost_pure (σ0 := σ) (.inr rfl) (by rw [hnx]; exact Nat.le_refl _) hwf (by first | exact Sub.refl σ | exact (((Ext.refl _).new _).sub hwf)) rfl trivial (by repeat' (first | trivial | apply And.intro)) ⟨rfl, rfl⟩

end Go.Hl
set_option linter.unusedSectionVars false
set_option linter.unusedVariables false
set_option linter.unusedSimpArgs false
set_option maxRecDepth 100000
namespace Go.Hl
open Go Go.Proofs

inductive Nd where
  | mk (kind : Int) (gap text : ByteArray) (at_ : Int) (kids : List Nd)

def Nd.kind : Nd → Int
  | .mk k _ _ _ _ => k
def Nd.gap : Nd → ByteArray
  | .mk _ g _ _ _ => g
def Nd.text : Nd → ByteArray
  | .mk _ _ t _ _ => t
def Nd.at_ : Nd → Int
  | .mk _ _ _ a _ => a
def Nd.kids : Nd → List Nd
  | .mk _ _ _ _ ks => ks

mutual
def encN : Nd → List D
  | .mk k g t a ks => [.int .i64 k, .str g, .str t, .int .i64 a, .slice .no 5 (encNs ks)]
def encNs : List Nd → List (List D)
  | [] => []
  | n :: ns => encN n :: encNs ns
end

theorem encN_length : ∀ n, (encN n).length = 5
  | .mk .. => rfl
mutual
theorem encN_lt (n : Nat) : ∀ m : Nd, ltL n (encN m)
  | .mk k g t a ks => by simp only [encN, ltL, D.lt, Own.lt, true_and, and_true]; exact encNs_lt n ks
theorem encNs_lt (n : Nat) : ∀ ks : List Nd, ltX n (encNs ks)
  | [] => trivial
  | k :: ks => ⟨encN_lt n k, encNs_lt n ks⟩
end

def stp (x : Int × Nd) : List D := .int .i64 x.1 :: encN x.2
def encSt (st : List (Int × Nd)) : List (List D) := st.reverse.map stp

theorem ltX_append {n : Nat} : ∀ {xs ys : List (List D)}, ltX n (xs ++ ys) ↔ ltX n xs ∧ ltX n ys
  | [], ys => by simp [ltX]
  | x :: xs, ys => by simp only [List.cons_append, ltX, ltX_append (xs := xs), and_assoc]
theorem encSt_lt (n : Nat) : ∀ st, ltX n (encSt st)
  | [] => trivial
  | (d, m) :: r => by
    have : encSt ((d, m) :: r) = encSt r ++ [stp (d, m)] := by simp [encSt]
    rw [this, ltX_append]
    exact ⟨encSt_lt n r, ⟨⟨trivial, encN_lt n m⟩, trivial⟩⟩

end Go.Hl
set_option linter.unusedSectionVars false
set_option linter.unusedVariables false
set_option linter.unusedSimpArgs false
set_option maxRecDepth 100000
namespace Go.Hl
open Go Go.Proofs

structure DS (C : Type) where
  st : List (Int × Nd)
  c : C
  tid : Nat
  vid : Nat
  g : Nat

def DS.T {X : Type} (tk : Tk X) (s : DS tk.C) : St := ((tk.T s.c).newAt s.vid (.vec s.g 6 (encSt s.st))).newAt s.tid (.box [.vec s.vid s.g])

theorem DS.wf {X : Type} (tk : Tk X) (s : DS tk.C) (hv : tk.N ≤ s.vid) (ht : s.vid < s.tid) : (DS.T tk s).wf :=
  ((tk.wf s.c).newAt (by rw [tk.next]; exact hv) (show (Ob.vec s.g 6 (encSt s.st)).lt (s.vid + 1) from encSt_lt _ _)).newAt (by rw [St.next_newAt]; omega) (by simp only [Ob.lt, ltL, D.lt, and_true]; omega)

structure PS where
  st : List (Int × Nd)
  g : Nat

def PS.step (d : Int) (p : PS) (x : Int × Nd) : PS × Option HC := (⟨(d + 1, x.2) :: p.st, p.g + 1⟩, none)

theorem PS.run (d : Int) : ∀ (xs : List (Int × Nd)) (p : PS), rngRun (PS.step d) p xs = (⟨(xs.map fun x => (d + 1, x.2)).reverse ++ p.st, p.g + xs.length⟩, none)
  | [], p => rfl
  | x :: xs, p => by
    simp only [rngRun, PS.step]
    rw [PS.run d xs]
    simp
    omega

theorem PS.oks (d : Int) : ∀ (xs : List (Int × Nd)) (p : PS), p.st.length + xs.length ≤ 1099511627776 → rngOks (fun (p : PS) (x : Int × Nd) => p.st.length < 1099511627776) (PS.step d) p xs
  | [], p, _ => trivial
  | x :: xs, p, h => by
    simp only [List.length_cons] at h
    refine ⟨by show p.st.length < _; omega, fun _ => PS.oks d xs _ ?_⟩
    simp only [PS.step, List.length_cons]
    omega

end Go.Hl
set_option linter.unusedSectionVars false
set_option linter.unusedVariables false
set_option linter.unusedSimpArgs false
set_option maxRecDepth 100000
namespace Go.Hl
open Go Go.Proofs

end Go.Hl
set_option linter.unusedSectionVars false
set_option linter.unusedVariables false
set_option linter.unusedSimpArgs false
set_option maxRecDepth 100000
namespace Go.Hl
open Go Go.Proofs

end Go.Hl
set_option linter.unusedSectionVars false
set_option linter.unusedVariables false
namespace Go.Hl
open Go

def valV (vals : List D) : Nat → D := fun j => vals.getD j .undef

theorem useV_congr {nt : Nat} {env : Env} {V V' : Nat → D} : ∀ {us : List (Nat × Nat)}, (∀ u ∈ us, nt ≤ u.2 → V (u.2 - nt) = V' (u.2 - nt)) → useV nt env V us = useV nt env V' us
  | [], _ => rfl
  | u :: us, h => by
    simp only [useV, List.map_cons]
    have h1 := useV_congr (nt := nt) (env := env) (us := us) fun x hx => h x (List.mem_cons_of_mem _ hx)
    simp only [useV] at h1
    rw [h1]
    congr 2
    split
    · rfl
    · exact h u (List.mem_cons_self ..) (by omega)

theorem dFinV_congr {V V' : Nat → D} : ∀ {ds : List DI} {i : Nat} {e : Env}, (∀ j, j < ds.length → V (i + j) = V' (i + j)) → dFinV V i ds e = dFinV V' i ds e
  | [], _, _, _ => rfl
  | d :: ds, i, e, h => by
    have h0 := h 0 (by simp)
    have h1 : ∀ e, dFinV V (i + 1) ds e = dFinV V' (i + 1) ds e := fun e => dFinV_congr fun j hj => by
      have := h (j + 1) (by simp; omega)
      rwa [show i + 1 + j = i + (j + 1) by omega]
    simp only [Nat.add_zero] at h0
    simp only [dFinV, h0, h1]

theorem allD_intro {F : Nat → DI → Prop} : ∀ {ds : List DI} {i : Nat}, (∀ (j : Nat) d, ds[j]? = some d → F (i + j) d) → allD i ds F
  | [], _, _ => trivial
  | d :: ds, i, h => ⟨by simpa using h 0 d rfl, allD_intro fun j d' hj => by
      have := h (j + 1) d' (by simpa using hj)
      rwa [show i + 1 + j = i + (j + 1) by omega]⟩

theorem goV_of_step {P : Program} {e : Env} {d : DI} {σ : St} {F Next : Go.Hl.D → St → Prop} (h : StepV P e d σ Next) (hF : ∀ x s, Next x s → F x s) : goV P e d σ F := by
  unfold goV
  cases h with
  | op hg hst hp =>
    rw [hg]
    show opH _ _ _
    unfold opH
    split
    · rename_i hop
      rw [hop] at hst
      cases hst
    · rw [hst]
      exact ⟨hp, hF _ _ ⟨rfl, rfl⟩⟩
  | not hg =>
    rw [hg]
    exact hF _ _ ⟨rfl, rfl⟩
  | call hop hg hc =>
    rw [hg, hop]
    exact ⟨_, _, _, rfl, hc, hF⟩

theorem goV_mono {P : Program} {e : Env} {d : DI} {σ : St} {F G : Go.Hl.D → St → Prop} (h : goV P e d σ F) (hfg : ∀ x s, F x s → G x s) : goV P e d σ G := by
  obtain ⟨Next, h1, h2⟩ := goV_step h
  exact goV_of_step h1 fun x s hx => hfg x s (h2 x s hx)

section
variable {M : Md} {base : HPost} {kont : List It} {D : List DI} {env : Env} {σ : St}

theorem hx_drawK (vals : List Go.Hl.D) (st : (Nat → Bool) → St) (hu : (D.all fun d => d.uses.all fun u => decide (u.2 < M.nt) || d.anc.testBit (u.2 - M.nt)) = true) (h0 : st (fun _ => false) = σ)
    (hs : ∀ L, (∀ i d, D[i]? = some d → L i = true → ∀ j, d.anc.testBit j = true → L j = true) → allD 0 D fun i d => L i = false → (∀ j, d.anc.testBit j = true → L j = true) →
      goV M.P (useV M.nt env (valV vals) d.uses) d (st L) fun x σ' => x = valV vals i ∧ σ' = st (upd L i true))
    (hfin : ∀ L, (∀ i, i < D.length → L i = true) → HX M base kont (dFinV (valV vals) 0 D (lowE M.nt env)) (st L)) : HX M base (.code (.draw D) :: kont) env σ := by
  refine hx_drawS (fun L V σ' => (∀ j, L j = true → V j = valV vals j) ∧ σ' = st L ∧ (∀ i d, D[i]? = some d → L i = true → ∀ j, d.anc.testBit j = true → L j = true))
    ⟨(fun _ h => by cases h), h0.symm, (fun _ _ _ h => by cases h)⟩ ?_ ?_
  · rintro L V σ' ⟨hV, rfl, hC⟩
    have h1 := hs L hC
    refine allD_intro fun i d hd hi ha => ?_
    rw [Nat.zero_add] at hi ⊢
    have h2 := allD_spec h1 i d hd
    rw [Nat.zero_add] at h2
    have he : useV M.nt env V d.uses = useV M.nt env (valV vals) d.uses := useV_congr fun u hu' hn => by
      have h3 := List.all_eq_true.1 hu d (List.mem_of_getElem? hd)
      have h4 := List.all_eq_true.1 h3 u hu'
      simp only [Bool.or_eq_true, decide_eq_true_eq] at h4
      rcases h4 with h4 | h4
      · omega
      · exact hV _ (ha _ h4)
    rw [he]
    refine goV_mono (h2 hi ha) ?_
    rintro x s ⟨rfl, rfl⟩
    refine ⟨fun j hj => ?_, rfl, fun k dk hk hLk j hj => ?_⟩
    · simp only [upd] at hj ⊢
      split
      · rename_i e; rw [e]
      · rename_i e; rw [if_neg e] at hj; exact hV j hj
    · simp only [upd] at hLk ⊢
      split
      · rfl
      · rename_i e
        split at hLk
        · rename_i e2
          subst e2
          obtain rfl := Option.some.inj (hd.symm.trans hk)
          exact ha j hj
        · exact hC k dk hk hLk j hj
  · rintro L V σ' hall ⟨hV, rfl, _⟩
    rw [dFinV_congr (V' := valV vals) fun j hj => by rw [Nat.zero_add]; exact hV j (hall j hj)]
    exact hfin L hall

end

end Go.Hl
set_option linter.unusedSectionVars false
set_option linter.unusedVariables false
set_option linter.unusedSimpArgs false
set_option maxRecDepth 100000
namespace Go.Hl
open Go Go.Proofs Go.RowKit

theorem token_calls (g t : ByteArray) (a : Int) (σ : St) : HCalls Tryz.prog 41 [.str g, .str t, .int .i64 a] σ (fun d σ' => d = .agg (encN (.mk 1 g t a [])) ∧ σ' = σ) := by
  refine hcalls_body (fn := Tryz.f41) rfl c41 (by simp [h41]) (by simp [h41, Tryz.f41]) ?_
  intro M hP hr hnt hnx hwf hlt
  simp only [h41, argEnv]
  refine hgo_sound 40 ?_
  simp -implicitDefEqProofs (maxSteps := 1000000) only [simpS, ↓condJ_true, ↓condJ_false, ↓reduceIte, Nat.reduceEqDiff, Nat.reduceLT, Nat.reduceLeDiff, reduceCtorEq, Nat.reduceAdd, Nat.reduceSub, noneS, listS, implies_true, forall_const, ne_eq]
  refine fpost_wk (ds := [.agg [.int .i64 1, .str g, .str t, .int .i64 a, .slice .nil 0 []]]) (.agg (.cons (.refl _) (.cons (.refl _) (.cons (.refl _) (.cons (.refl _) (.cons .nil .nil)))))) (.inr rfl) (by omega) hwf (((Ext.refl σ).new _).sub hwf) (resD_cellS rfl (by simp [St.obj_new]; rfl) rfl resD_nil) ⟨by simp, trivial⟩ ⟨trivial, trivial, trivial, trivial, ⟨trivial, trivial⟩, trivial⟩ ⟨rfl, rfl⟩

end Go.Hl
