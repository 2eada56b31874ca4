/-
  Layer 1: lines; Cut.
-/
import Derived.Test.YtldfojmjjidadaaTxB
import Derived.Lib.Bytealg
import Derived.IntWalk
set_option linter.unusedSectionVars false
set_option linter.unusedVariables false
set_option linter.unusedSimpArgs false
set_option maxRecDepth 100000
namespace Go.Hl
open Go Go.Proofs Go.RowKit

abbrev byD (b : UInt8) : D := .int .u8 (b.toNat : Int)

/-! ### Lines, plain -/

/-- How far the first line goes. -/
def lenTo : List UInt8 → Nat
  | [] => 0
  | b :: r => if b = 10 then 0 else lenTo r + 1
/-- Where lines begin behind the first. -/
def begT (i : Nat) : List UInt8 → List Nat
  | [] => []
  | b :: r => if b = 10 then (i + 1) :: begT (i + 1) r else begT (i + 1) r
def begs (s : ByteArray) : List Nat := 0 :: begT 0 s.data.toList
/-- The line that begins at a. -/
def lnA (s : ByteArray) (a : Nat) : ByteArray := s.extract a (a + lenTo (s.data.toList.drop a))

theorem lenTo_le : ∀ l, lenTo l ≤ l.length
  | [] => Nat.le_refl _
  | b :: r => by
    have := lenTo_le r
    simp only [lenTo]
    split
    · omega
    · simp only [List.length_cons]; omega

theorem indexByte_lenTo : ∀ l : List UInt8, Lib.indexByte l 10 = if lenTo l < l.length then (lenTo l : Int) else -1
  | [] => by simp [Lib.indexByte, lenTo]
  | b :: r => by
    have ih := indexByte_lenTo r
    have hle := lenTo_le r
    by_cases hb : b = 10
    · subst hb
      simp [Lib.indexByte, lenTo]
    · have hb' : (b == 10) = false := by simpa using hb
      simp only [Lib.indexByte, lenTo, hb', if_neg hb, ih, List.length_cons, Bool.false_eq_true, if_false]
      by_cases h : lenTo r < r.length
      · rw [if_pos h, if_pos (show lenTo r + 1 < r.length + 1 by omega)]
        have h1 : ((lenTo r : Int) == -1) = false := by simp
        rw [h1]
        simp
      · rw [if_neg h, if_neg (show ¬ lenTo r + 1 < r.length + 1 by omega)]
        rfl

theorem begT_split : ∀ (l : List UInt8) (a : Nat), begT a l = if lenTo l < l.length then (a + lenTo l + 1) :: begT (a + lenTo l + 1) (l.drop (lenTo l + 1)) else []
  | [], a => by simp [begT, lenTo]
  | b :: r, a => by
    by_cases hb : b = 10
    · subst hb
      simp [begT, lenTo]
    · simp only [begT, lenTo, if_neg hb, List.length_cons]
      rw [begT_split r (a + 1)]
      by_cases h : lenTo r < r.length
      · rw [if_pos h, if_pos (show lenTo r + 1 < r.length + 1 by omega)]
        rw [show a + 1 + lenTo r + 1 = a + (lenTo r + 1) + 1 by omega]
        simp [List.drop_succ_cons]
      · rw [if_neg h, if_neg (show ¬ lenTo r + 1 < r.length + 1 by omega)]

/-! ### Cut, at one byte -/

theorem indexByteString_calls (s : ByteArray) (b : UInt8) (σ : St) : HCalls Try.prog 45 [.str s, byD b] σ (fun d σ' => d = .int .i64 (Lib.indexByte s.data.toList b) ∧ σ' = σ) := by
  intro g w vs hr hl
  simp only [RL, R] at hl
  obtain ⟨_, _, rfl, rfl, _, _, rfl, rfl, rfl⟩ := hl
  show NextOk Try.prog _ ((callFunc 45 #[.string s, .int .u8 (b.toNat : Int)]).run Try.prog w)
  rw [run_callFunc_extern Try.func45 (by kernel_rfl) (by kernel_rfl) (by kernel_rfl) (e := Extern.BytealgIndexByte.indexByte) (by kernel_rfl), Lib.run_indexByteString]
  have hb : ((b.toNat : Int)).toNat.toUInt8 = b := by simp
  rw [hb]
  exact ⟨.int .i64 (Lib.indexByte s.data.toList b), g, σ, E.refl g w hr.gw, hr, rfl, rfl, rfl⟩

theorem lindexByte_calls (s : ByteArray) (b : UInt8) (σ : St) : HCalls Try.prog 37 [.str s, byD b] σ (fun d σ' => d = .int .i64 (Lib.indexByte s.data.toList b) ∧ σ' = σ) := by
  refine hcalls_body (fn := Try.f37) rfl c37 (by simp [h37]) (by simp [h37, Try.f37]) ?_
  intro M hP hr hnt hnx hwf hlt
  simp only [h37, argEnv]
  refine hgo_sound 60 ?_
  simp -implicitDefEqProofs (maxSteps := 1000000) only [simpS, ↓condJ_true, ↓condJ_false, ↓reduceIte, Nat.reduceEqDiff, Nat.reduceLT, Nat.reduceLeDiff, reduceCtorEq, Nat.reduceAdd, Nat.reduceSub, bindG_none, addG_none, hgrpK_none, nestK_none, hgrpK_guarded, Option.map_none, beq_self_eq_true, bne_self_eq_false, Option.map_some, if_true, if_false, List.getD_cons_zero, List.getD_cons_succ, List.length_cons, List.length_nil, List.mem_cons, List.not_mem_nil, List.mem_append, List.nil_append, List.cons_append, List.append_nil, List.take_succ_cons, List.take_zero, List.drop_succ_cons, List.drop_zero, List.set_cons_zero, List.set_cons_succ, List.map_cons, List.map_nil, implies_true, forall_const, ne_eq]
  refine hx_call (f := .fn 45) rfl (by rw [hP]; exact hcallD_func (indexByteString_calls s b _)) ?_
  rintro _ σ2 ⟨rfl, h⟩
  subst σ2
  refine hgo_sound 60 ?_
  simp -implicitDefEqProofs (maxSteps := 1000000) only [simpS, ↓condJ_true, ↓condJ_false, ↓reduceIte, Nat.reduceEqDiff, Nat.reduceLT, Nat.reduceLeDiff, reduceCtorEq, Nat.reduceAdd, Nat.reduceSub, bindG_none, addG_none, hgrpK_none, nestK_none, hgrpK_guarded, Option.map_none, beq_self_eq_true, bne_self_eq_false, Option.map_some, if_true, if_false, List.getD_cons_zero, List.getD_cons_succ, List.length_cons, List.length_nil, List.mem_cons, List.not_mem_nil, List.mem_append, List.nil_append, List.cons_append, List.append_nil, List.take_succ_cons, List.take_zero, List.drop_succ_cons, List.drop_zero, List.set_cons_zero, List.set_cons_succ, List.map_cons, List.map_nil, implies_true, forall_const, ne_eq]
  exact fpost_pure (σ0 := σ) (.inr rfl) (by rw [hnx]; exact Nat.le_refl _) hwf (Sub.refl σ) rfl trivial trivial ⟨rfl, rfl⟩

theorem index1_calls (s : ByteArray) (b : UInt8) (σ : St) : HCalls Try.prog 32 [.str s, .str ⟨#[b]⟩] σ (fun d σ' => d = .int .i64 (Lib.indexByte s.data.toList b) ∧ σ' = σ) := by
  refine hcalls_body (fn := Try.f32) rfl c32 (by simp [h32]) (by simp [h32, Try.f32]) ?_
  intro M hP hr hnt hnx hwf hlt
  simp only [h32, argEnv]
  have h1 : ((⟨#[b]⟩ : ByteArray).size : Int) = 1 := rfl
  have h2 : (⟨#[b]⟩ : ByteArray).data.getD (Int.toNat 0) 0 = b := rfl
  have h3 : ((1 : Int) == 0) = false := rfl
  refine hgo_sound 60 ?_
  simp -implicitDefEqProofs (maxSteps := 1000000) only [simpS, ↓condJ_true, ↓condJ_false, ↓reduceIte, Nat.reduceEqDiff, Nat.reduceLT, Nat.reduceLeDiff, reduceCtorEq, Nat.reduceAdd, Nat.reduceSub, bindG_none, addG_none, hgrpK_none, nestK_none, hgrpK_guarded, Option.map_none, beq_self_eq_true, bne_self_eq_false, Option.map_some, if_true, if_false, List.getD_cons_zero, List.getD_cons_succ, List.length_cons, List.length_nil, List.mem_cons, List.not_mem_nil, List.mem_append, List.nil_append, List.cons_append, List.append_nil, List.take_succ_cons, List.take_zero, List.drop_succ_cons, List.drop_zero, List.set_cons_zero, List.set_cons_succ, List.map_cons, List.map_nil, implies_true, forall_const, ne_eq, h1, h2, h3, beq_self_eq_true, Int.le_refl, show (0 : Int) < 1 by decide]
  refine ⟨fun h => ?_, fun _ => ?_⟩
  · have h' : (⟨#[b]⟩ : ByteArray) = s := by simpa using h
    subst h'
    exact fpost_pure (σ0 := σ) (.inr rfl) (by rw [hnx]; exact Nat.le_refl _) hwf (Sub.refl σ) rfl trivial trivial ⟨by simp [tupD, look, Lib.indexByte], rfl⟩
  · skip
    refine hx_call (f := .fn 37) rfl (by rw [hP]; exact hcallD_func (lindexByte_calls s b _)) ?_
    rintro _ σ2 ⟨rfl, h⟩
    subst σ2
    refine hgo_sound 60 ?_
    simp -implicitDefEqProofs (maxSteps := 1000000) only [simpS, ↓condJ_true, ↓condJ_false, ↓reduceIte, Nat.reduceEqDiff, Nat.reduceLT, Nat.reduceLeDiff, reduceCtorEq, Nat.reduceAdd, Nat.reduceSub, bindG_none, addG_none, hgrpK_none, nestK_none, hgrpK_guarded, Option.map_none, beq_self_eq_true, bne_self_eq_false, Option.map_some, if_true, if_false, List.getD_cons_zero, List.getD_cons_succ, List.length_cons, List.length_nil, List.mem_cons, List.not_mem_nil, List.mem_append, List.nil_append, List.cons_append, List.append_nil, List.take_succ_cons, List.take_zero, List.drop_succ_cons, List.drop_zero, List.set_cons_zero, List.set_cons_succ, List.map_cons, List.map_nil, implies_true, forall_const, ne_eq]
    exact fpost_pure (σ0 := σ) (.inr rfl) (by rw [hnx]; exact Nat.le_refl _) hwf (Sub.refl σ) rfl trivial trivial ⟨rfl, rfl⟩

def cutL (t : ByteArray) : List D :=
  let n := lenTo t.data.toList
  if n < t.size then [.str (t.extract 0 n), .str (t.extract (n + 1) t.size), .bool true] else [.str t, .str ⟨#[]⟩, .bool false]

theorem lcut_calls (t : ByteArray) (ht : t.size ≤ 1099511627776) (σ : St) : HCalls Try.prog 26 [.str t, .str ⟨#[10]⟩] σ (fun d σ' => d = .tuple (cutL t) ∧ σ' = σ) := by
  refine hcalls_body (fn := Try.f26) rfl c26 (by simp [h26]) (by simp [h26, Try.f26]) ?_
  intro M hP hr hnt hnx hwf hlt
  simp only [h26, argEnv]
  have hnt' : M.nt = 23 := hnt
  have h1 : ((⟨#[10]⟩ : ByteArray).size : Int) = 1 := rfl
  have hlen : t.data.toList.length = t.size := by simp
  refine hgo_sound 60 ?_
  simp -implicitDefEqProofs (maxSteps := 1000000) only [simpS, ↓condJ_true, ↓condJ_false, ↓reduceIte, Nat.reduceEqDiff, Nat.reduceLT, Nat.reduceLeDiff, reduceCtorEq, Nat.reduceAdd, Nat.reduceSub, bindG_none, addG_none, hgrpK_none, nestK_none, hgrpK_guarded, Option.map_none, beq_self_eq_true, bne_self_eq_false, Option.map_some, if_true, if_false, List.getD_cons_zero, List.getD_cons_succ, List.length_cons, List.length_nil, List.mem_cons, List.not_mem_nil, List.mem_append, List.nil_append, List.cons_append, List.append_nil, List.take_succ_cons, List.take_zero, List.drop_succ_cons, List.drop_zero, List.set_cons_zero, List.set_cons_succ, List.map_cons, List.map_nil, implies_true, forall_const, ne_eq]
  refine hx_call (f := .fn 32) rfl (by rw [hP]; exact hcallD_func (index1_calls t 10 _)) ?_
  rintro _ σ2 ⟨rfl, h⟩
  subst σ2
  rw [indexByte_lenTo, hlen]
  unfold cutL
  by_cases h : lenTo t.data.toList < t.size
  · simp only [if_pos h]
    have hd : decide ((lenTo t.data.toList : Int) ≥ 0) = true := by simp
    have hw : IntKind.i64.wrap ((lenTo t.data.toList : Int) + 1) = ((lenTo t.data.toList + 1 : Nat) : Int) := by rw [IntWalk.i64_in _ (by omega)]; rfl
    refine hgo_sound 12 ?_
    simp -implicitDefEqProofs (maxSteps := 1000000) only [simpS, ↓condJ_true, ↓condJ_false, ↓reduceIte, Nat.reduceEqDiff, Nat.reduceLT, Nat.reduceLeDiff, reduceCtorEq, Nat.reduceAdd, Nat.reduceSub, bindG_none, addG_none, hgrpK_none, nestK_none, hgrpK_guarded, Option.map_none, beq_self_eq_true, bne_self_eq_false, Option.map_some, if_true, if_false, List.getD_cons_zero, List.getD_cons_succ, List.length_cons, List.length_nil, List.mem_cons, List.not_mem_nil, List.mem_append, List.nil_append, List.cons_append, List.append_nil, List.take_succ_cons, List.take_zero, List.drop_succ_cons, List.drop_zero, List.set_cons_zero, List.set_cons_succ, List.map_cons, List.map_nil, implies_true, forall_const, ne_eq, hd]
    refine hx_drawgo 1 ?_
    simp -implicitDefEqProofs (maxSteps := 3000000) only [drawS, List.map_cons, List.map_nil, List.getElem?_cons_zero, List.getElem?_cons_succ, List.getElem?_nil, simpS, ↓condJ_true, ↓condJ_false, ↓reduceIte, Nat.reduceEqDiff, Nat.reduceLT, Nat.reduceLeDiff, reduceCtorEq, Nat.reduceAdd, Nat.reduceSub, bindG_none, addG_none, hgrpK_none, nestK_none, hgrpK_guarded, Option.map_none, beq_self_eq_true, bne_self_eq_false, Option.map_some, if_true, if_false, List.getD_cons_zero, List.getD_cons_succ, List.length_cons, List.length_nil, List.mem_cons, List.not_mem_nil, List.mem_append, List.nil_append, List.cons_append, List.append_nil, List.take_succ_cons, List.take_zero, List.drop_succ_cons, List.drop_zero, List.set_cons_zero, List.set_cons_succ, List.map_cons, List.map_nil, implies_true, forall_const, ne_eq, hnt', h1, hw, Int.toNat_natCast]
    refine ⟨by omega, ?_⟩
    refine hgo_sound 60 ?_
    simp -implicitDefEqProofs (maxSteps := 1000000) only [simpS, ↓condJ_true, ↓condJ_false, ↓reduceIte, Nat.reduceEqDiff, Nat.reduceLT, Nat.reduceLeDiff, reduceCtorEq, Nat.reduceAdd, Nat.reduceSub, bindG_none, addG_none, hgrpK_none, nestK_none, hgrpK_guarded, Option.map_none, beq_self_eq_true, bne_self_eq_false, Option.map_some, if_true, if_false, List.getD_cons_zero, List.getD_cons_succ, List.length_cons, List.length_nil, List.mem_cons, List.not_mem_nil, List.mem_append, List.nil_append, List.cons_append, List.append_nil, List.take_succ_cons, List.take_zero, List.drop_succ_cons, List.drop_zero, List.set_cons_zero, List.set_cons_succ, List.map_cons, List.map_nil, implies_true, forall_const, ne_eq]
    exact fpost_pure (σ0 := σ) (.inr rfl) (by rw [hnx]; exact Nat.le_refl _) hwf (Sub.refl σ) rfl trivial ⟨trivial, trivial, trivial, trivial⟩ ⟨rfl, rfl⟩
  · simp only [if_neg h]
    have hd : decide ((-1 : Int) ≥ 0) = false := rfl
    refine hgo_sound 60 ?_
    simp -implicitDefEqProofs (maxSteps := 1000000) only [simpS, ↓condJ_true, ↓condJ_false, ↓reduceIte, Nat.reduceEqDiff, Nat.reduceLT, Nat.reduceLeDiff, reduceCtorEq, Nat.reduceAdd, Nat.reduceSub, bindG_none, addG_none, hgrpK_none, nestK_none, hgrpK_guarded, Option.map_none, beq_self_eq_true, bne_self_eq_false, Option.map_some, if_true, if_false, List.getD_cons_zero, List.getD_cons_succ, List.length_cons, List.length_nil, List.mem_cons, List.not_mem_nil, List.mem_append, List.nil_append, List.cons_append, List.append_nil, List.take_succ_cons, List.take_zero, List.drop_succ_cons, List.drop_zero, List.set_cons_zero, List.set_cons_succ, List.map_cons, List.map_nil, implies_true, forall_const, ne_eq, hd]
    exact fpost_pure (σ0 := σ) (.inr rfl) (by rw [hnx]; exact Nat.le_refl _) hwf (Sub.refl σ) rfl trivial ⟨trivial, trivial, trivial, trivial⟩ ⟨rfl, rfl⟩

theorem cut_calls (t : ByteArray) (ht : t.size ≤ 1099511627776) (σ : St) : HCalls Try.prog 20 [.str t, .str ⟨#[10]⟩] σ (fun d σ' => d = .tuple (cutL t) ∧ σ' = σ) := by
  refine hcalls_body (fn := Try.f20) rfl c20 (by simp [h20]) (by simp [h20, Try.f20]) ?_
  intro M hP hr hnt hnx hwf hlt
  simp only [h20, argEnv]
  refine hgo_sound 60 ?_
  simp -implicitDefEqProofs (maxSteps := 1000000) only [simpS, ↓condJ_true, ↓condJ_false, ↓reduceIte, Nat.reduceEqDiff, Nat.reduceLT, Nat.reduceLeDiff, reduceCtorEq, Nat.reduceAdd, Nat.reduceSub, bindG_none, addG_none, hgrpK_none, nestK_none, hgrpK_guarded, Option.map_none, beq_self_eq_true, bne_self_eq_false, Option.map_some, if_true, if_false, List.getD_cons_zero, List.getD_cons_succ, List.length_cons, List.length_nil, List.mem_cons, List.not_mem_nil, List.mem_append, List.nil_append, List.cons_append, List.append_nil, List.take_succ_cons, List.take_zero, List.drop_succ_cons, List.drop_zero, List.set_cons_zero, List.set_cons_succ, List.map_cons, List.map_nil, implies_true, forall_const, ne_eq]
  refine hx_call (f := .fn 26) rfl (by rw [hP]; exact hcallD_func (lcut_calls t ht _)) ?_
  rintro _ σ2 ⟨rfl, h⟩
  subst σ2
  unfold cutL
  by_cases h : lenTo t.data.toList < t.size
  · simp only [if_pos h]
    refine hgo_sound 60 ?_
    simp -implicitDefEqProofs (maxSteps := 1000000) only [simpS, ↓condJ_true, ↓condJ_false, ↓reduceIte, Nat.reduceEqDiff, Nat.reduceLT, Nat.reduceLeDiff, reduceCtorEq, Nat.reduceAdd, Nat.reduceSub, bindG_none, addG_none, hgrpK_none, nestK_none, hgrpK_guarded, Option.map_none, beq_self_eq_true, bne_self_eq_false, Option.map_some, if_true, if_false, List.getD_cons_zero, List.getD_cons_succ, List.length_cons, List.length_nil, List.mem_cons, List.not_mem_nil, List.mem_append, List.nil_append, List.cons_append, List.append_nil, List.take_succ_cons, List.take_zero, List.drop_succ_cons, List.drop_zero, List.set_cons_zero, List.set_cons_succ, List.map_cons, List.map_nil, implies_true, forall_const, ne_eq]
    exact fpost_pure (σ0 := σ) (.inr rfl) (by rw [hnx]; exact Nat.le_refl _) hwf (Sub.refl σ) rfl trivial ⟨trivial, trivial, trivial, trivial⟩ ⟨rfl, rfl⟩
  · simp only [if_neg h]
    refine hgo_sound 60 ?_
    simp -implicitDefEqProofs (maxSteps := 1000000) only [simpS, ↓condJ_true, ↓condJ_false, ↓reduceIte, Nat.reduceEqDiff, Nat.reduceLT, Nat.reduceLeDiff, reduceCtorEq, Nat.reduceAdd, Nat.reduceSub, bindG_none, addG_none, hgrpK_none, nestK_none, hgrpK_guarded, Option.map_none, beq_self_eq_true, bne_self_eq_false, Option.map_some, if_true, if_false, List.getD_cons_zero, List.getD_cons_succ, List.length_cons, List.length_nil, List.mem_cons, List.not_mem_nil, List.mem_append, List.nil_append, List.cons_append, List.append_nil, List.take_succ_cons, List.take_zero, List.drop_succ_cons, List.drop_zero, List.set_cons_zero, List.set_cons_succ, List.map_cons, List.map_nil, implies_true, forall_const, ne_eq]
    exact fpost_pure (σ0 := σ) (.inr rfl) (by rw [hnx]; exact Nat.le_refl _) hwf (Sub.refl σ) rfl trivial ⟨trivial, trivial, trivial, trivial⟩ ⟨rfl, rfl⟩

/-! ### text.Lines -/

theorem lines_calls (s : ByteArray) (σ : St) : HCalls Try.prog 10 [.str s] σ (fun d σ' => d = .func 19 [.eptr [.str s] 0] ∧ σ' = σ) := by
  refine hcalls_body (fn := Try.f10) rfl c10 (by simp [h10]) (by simp [h10, Try.f10]) ?_
  intro M hP hr hnt hnx hwf hlt
  simp only [h10, argEnv]
  refine hgo_sound 60 ?_
  simp -implicitDefEqProofs (maxSteps := 1000000) only [simpS, ↓condJ_true, ↓condJ_false, ↓reduceIte, Nat.reduceEqDiff, Nat.reduceLT, Nat.reduceLeDiff, reduceCtorEq, Nat.reduceAdd, Nat.reduceSub, bindG_none, addG_none, hgrpK_none, nestK_none, hgrpK_guarded, Option.map_none, beq_self_eq_true, bne_self_eq_false, Option.map_some, if_true, if_false, List.getD_cons_zero, List.getD_cons_succ, List.length_cons, List.length_nil, List.mem_cons, List.not_mem_nil, List.mem_append, List.nil_append, List.cons_append, List.append_nil, List.take_succ_cons, List.take_zero, List.drop_succ_cons, List.drop_zero, List.set_cons_zero, List.set_cons_succ, List.map_cons, List.map_nil, implies_true, forall_const, ne_eq]
  refine fpost_frz [(σ.next, [.str s])] false (.inr rfl) (by omega) hwf ((Ext.refl σ).new _ |>.sub hwf) rfl trivial (by simp [St.obj_new]) (by simp [tupD, frzD, frzL, lookF, look]) ?_ ⟨rfl, rfl⟩
  simp [D.lt, ltL]

def encL (x : Nat × ByteArray) : List D := [.int .i64 (x.1 : Int), .str x.2]
def itemsF (s : ByteArray) (l : List Nat) : List (Nat × ByteArray) := l.map fun a => (a, lnA s a)

theorem items_cons (s : ByteArray) (a : Nat) (l : List Nat) : itemsF s (a :: l) = (a, lnA s a) :: itemsF s l := rfl
theorem items_nil (s : ByteArray) : itemsF s [] = [] := rfl

structure LnS (C : Type) where
  a : Nat
  c : C

theorem ex_list (s : ByteArray) (a b : Nat) : (s.extract a b).data.toList = (s.data.toList.take b).drop a := by
  simp [ByteArray.data_extract, Array.toList_extract, List.drop_take, List.extract]
theorem ex_ex (s : ByteArray) (a b c d : Nat) (h : a + d ≤ b) : (s.extract a b).extract c d = s.extract (a + c) (a + d) := by
  rw [ByteArray.extract_extract, Nat.min_eq_left h]
theorem extract_all (s : ByteArray) (a n : Nat) (h : a + n = s.size) : s.extract a s.size = s.extract a (a + n) := by rw [h]

theorem lines_iter (s : ByteArray) (hs : s.size ≤ 1099511627776) :
    Iter Try.prog 19 (fun y => [y, .eptr [.str s] 0]) encL (itemsF s (begs s)) := by
  intro tk c y hok hy
  refine hcalls_body (fn := Try.f19) rfl c19 (by simp [h19]) (by simp [h19, Try.f19]) ?_
  intro M hP hr hnt hnx hwf hlt
  simp only [h19, argEnv]
  refine hgo_sound 60 ?_
  simp -implicitDefEqProofs (maxSteps := 1000000) only [simpS, ↓condJ_true, ↓condJ_false, ↓reduceIte, Nat.reduceEqDiff, Nat.reduceLT, Nat.reduceLeDiff, reduceCtorEq, Nat.reduceAdd, Nat.reduceSub, bindG_none, addG_none, hgrpK_none, nestK_none, hgrpK_guarded, Option.map_none, beq_self_eq_true, bne_self_eq_false, Option.map_some, if_true, if_false, List.getD_cons_zero, List.getD_cons_succ, List.length_cons, List.length_nil, List.mem_cons, List.not_mem_nil, List.mem_append, List.nil_append, List.cons_append, List.append_nil, List.take_succ_cons, List.take_zero, List.drop_succ_cons, List.drop_zero, List.set_cons_zero, List.set_cons_succ, List.map_cons, List.map_nil, implies_true, forall_const, ne_eq]
  refine hx_know_code fun hw hl hn => ?_
  refine hx_loop (S := LnS tk.C) (fun t => [(0, y), (1, .eptr [.str s] 0), (3, .int .i64 t.a)]) (fun t => tk.T t.c)
    (fun t => t.a ≤ s.size ∧ tk.oks t.c (itemsF s (t.a :: begT t.a (s.data.toList.drop t.a))) ∧ tk.run c (itemsF s (begs s)) = tk.run t.c (itemsF s (t.a :: begT t.a (s.data.toList.drop t.a))))
    (fun t => s.size - t.a) ⟨0, c⟩ ⟨Nat.zero_le _, hok, rfl⟩ (fun _ _ h => by rw [hr] at h; cases h) ?_ ?_
  · exact Drop.all hw hn ⟨⟨rfl, hl 0⟩, ⟨rfl, hl 1⟩, ⟨rfl, trivial⟩, trivial⟩
  rintro ⟨a, c1⟩ ⟨h1, h6, h7⟩
  simp only at h1 h6 h7 ⊢
  refine hx_know_code fun hw1 hl1 hn1 => ?_
  have ha : (0 : Int) ≤ (a : Int) ∧ (a : Int) ≤ (s.size : Int) := by omega
  have htl : (s.extract a s.size).data.toList = s.data.toList.drop a := by
    rw [ex_list, List.take_of_length_le (by simp)]
  have htz : (s.extract a s.size).size = s.size - a := by simp [ByteArray.size_extract]
  have hlen : s.data.toList.length = s.size := by simp
  refine hgo_sound 60 ?_
  simp -implicitDefEqProofs (maxSteps := 1000000) only [simpS, ↓condJ_true, ↓condJ_false, ↓reduceIte, Nat.reduceEqDiff, Nat.reduceLT, Nat.reduceLeDiff, reduceCtorEq, Nat.reduceAdd, Nat.reduceSub, bindG_none, addG_none, hgrpK_none, nestK_none, hgrpK_guarded, Option.map_none, beq_self_eq_true, bne_self_eq_false, Option.map_some, if_true, if_false, List.getD_cons_zero, List.getD_cons_succ, List.length_cons, List.length_nil, List.mem_cons, List.not_mem_nil, List.mem_append, List.nil_append, List.cons_append, List.append_nil, List.take_succ_cons, List.take_zero, List.drop_succ_cons, List.drop_zero, List.set_cons_zero, List.set_cons_succ, List.map_cons, List.map_nil, implies_true, forall_const, ne_eq, ha.1, ha.2, Int.toNat_natCast]
  refine hx_call (f := .fn 20) rfl (by rw [hP]; exact hcallD_func (cut_calls (s.extract a s.size) (by omega) _)) ?_
  rintro _ σ2 ⟨rfl, h⟩
  subst σ2
  unfold cutL
  rw [htl, htz]
  rw [begT_split (s.data.toList.drop a) a, List.length_drop, hlen] at h6 h7
  have hle := lenTo_le (s.data.toList.drop a)
  rw [List.length_drop, hlen] at hle
  by_cases h : lenTo (s.data.toList.drop a) < s.size - a
  · simp only [if_pos h] at h6 h7 ⊢
    have hln : (s.extract a s.size).extract 0 (lenTo (s.data.toList.drop a)) = lnA s a := by
      rw [ex_ex _ _ _ _ _ (by omega)]; rfl
    rw [hln]
    rw [List.drop_drop] at h6 h7
    have hlz : ((lnA s a).size : Int) = (lenTo (s.data.toList.drop a) : Int) := by unfold lnA; simp [ByteArray.size_extract]; omega
    refine hgo_sound 60 ?_
    simp -implicitDefEqProofs (maxSteps := 1000000) only [simpS, ↓condJ_true, ↓condJ_false, ↓reduceIte, Nat.reduceEqDiff, Nat.reduceLT, Nat.reduceLeDiff, reduceCtorEq, Nat.reduceAdd, Nat.reduceSub, bindG_none, addG_none, hgrpK_none, nestK_none, hgrpK_guarded, Option.map_none, beq_self_eq_true, bne_self_eq_false, Option.map_some, if_true, if_false, List.getD_cons_zero, List.getD_cons_succ, List.length_cons, List.length_nil, List.mem_cons, List.not_mem_nil, List.mem_append, List.nil_append, List.cons_append, List.append_nil, List.take_succ_cons, List.take_zero, List.drop_succ_cons, List.drop_zero, List.set_cons_zero, List.set_cons_succ, List.map_cons, List.map_nil, implies_true, forall_const, ne_eq]
    refine hx_call rfl (by rw [hP]; exact hy.call c1 (a, lnA s a) (tk.T c1) (tk.low c1) h6.1) ?_
    rintro d σ2 ⟨rfl, rfl⟩
    rw [tk.mixT]
    refine hx_know_ops fun hw2 hl2 hn2 => ?_
    have hw3 : IntKind.i64.wrap ((lenTo (s.data.toList.drop a) : Int) + 1) = (lenTo (s.data.toList.drop a) : Int) + 1 := IntWalk.i64_in _ (by omega)
    have hw4 : IntKind.i64.wrap ((a : Int) + ((lenTo (s.data.toList.drop a) : Int) + 1)) = ((a + lenTo (s.data.toList.drop a) + 1 : Nat) : Int) := by rw [IntWalk.i64_in _ (by omega)]; omega
    simp only [items_cons] at h6 h7
    cases hb : (tk.step c1 (a, lnA s a)).2
    · refine hgo_sound 60 ?_
      simp -implicitDefEqProofs (maxSteps := 1000000) only [simpS, ↓condJ_true, ↓condJ_false, ↓reduceIte, Nat.reduceEqDiff, Nat.reduceLT, Nat.reduceLeDiff, reduceCtorEq, Nat.reduceAdd, Nat.reduceSub, bindG_none, addG_none, hgrpK_none, nestK_none, hgrpK_guarded, Option.map_none, beq_self_eq_true, bne_self_eq_false, Option.map_some, if_true, if_false, List.getD_cons_zero, List.getD_cons_succ, List.length_cons, List.length_nil, List.mem_cons, List.not_mem_nil, List.mem_append, List.nil_append, List.cons_append, List.append_nil, List.take_succ_cons, List.take_zero, List.drop_succ_cons, List.drop_zero, List.set_cons_zero, List.set_cons_succ, List.map_cons, List.map_nil, implies_true, forall_const, ne_eq, hlz, hw3, hw4]
      rw [h7, Tk.run_false hb]
      exact fpost_pure (.inr rfl) hn2 hw2 (Sub.refl _) rfl trivial trivial rfl
    · refine hgo_sound 60 ?_
      simp -implicitDefEqProofs (maxSteps := 1000000) only [simpS, ↓condJ_true, ↓condJ_false, ↓reduceIte, Nat.reduceEqDiff, Nat.reduceLT, Nat.reduceLeDiff, reduceCtorEq, Nat.reduceAdd, Nat.reduceSub, bindG_none, addG_none, hgrpK_none, nestK_none, hgrpK_guarded, Option.map_none, beq_self_eq_true, bne_self_eq_false, Option.map_some, if_true, if_false, List.getD_cons_zero, List.getD_cons_succ, List.length_cons, List.length_nil, List.mem_cons, List.not_mem_nil, List.mem_append, List.nil_append, List.cons_append, List.append_nil, List.take_succ_cons, List.take_zero, List.drop_succ_cons, List.drop_zero, List.set_cons_zero, List.set_cons_succ, List.map_cons, List.map_nil, implies_true, forall_const, ne_eq, hlz, hw3, hw4]
      intro _ _ _
      refine ⟨⟨a + lenTo (s.data.toList.drop a) + 1, _⟩, ⟨by simp only; omega, h6.2 hb, by rw [h7, Tk.run_true hb]; rfl⟩, by simp only; omega, ?_⟩
      exact Drop.all hw2 hn2 ⟨⟨rfl, hl2 0⟩, ⟨rfl, hl2 1⟩, ⟨rfl, trivial⟩, trivial⟩
  · simp only [if_neg h] at h6 h7 ⊢
    have hln : s.extract a s.size = lnA s a := by
      unfold lnA
      rw [show a + lenTo (s.data.toList.drop a) = s.size by omega]
    rw [hln]
    simp only [items_cons, items_nil] at h6 h7
    refine hgo_sound 60 ?_
    simp -implicitDefEqProofs (maxSteps := 1000000) only [simpS, ↓condJ_true, ↓condJ_false, ↓reduceIte, Nat.reduceEqDiff, Nat.reduceLT, Nat.reduceLeDiff, reduceCtorEq, Nat.reduceAdd, Nat.reduceSub, bindG_none, addG_none, hgrpK_none, nestK_none, hgrpK_guarded, Option.map_none, beq_self_eq_true, bne_self_eq_false, Option.map_some, if_true, if_false, List.getD_cons_zero, List.getD_cons_succ, List.length_cons, List.length_nil, List.mem_cons, List.not_mem_nil, List.mem_append, List.nil_append, List.cons_append, List.append_nil, List.take_succ_cons, List.take_zero, List.drop_succ_cons, List.drop_zero, List.set_cons_zero, List.set_cons_succ, List.map_cons, List.map_nil, implies_true, forall_const, ne_eq]
    refine hx_call rfl (by rw [hP]; exact hy.call c1 (a, lnA s a) (tk.T c1) (tk.low c1) h6.1) ?_
    rintro d σ2 ⟨rfl, rfl⟩
    rw [tk.mixT]
    refine hx_know_ops fun hw2 hl2 hn2 => ?_
    cases hb : (tk.step c1 (a, lnA s a)).2
    · refine hgo_sound 60 ?_
      simp -implicitDefEqProofs (maxSteps := 1000000) only [simpS, ↓condJ_true, ↓condJ_false, ↓reduceIte, Nat.reduceEqDiff, Nat.reduceLT, Nat.reduceLeDiff, reduceCtorEq, Nat.reduceAdd, Nat.reduceSub, bindG_none, addG_none, hgrpK_none, nestK_none, hgrpK_guarded, Option.map_none, beq_self_eq_true, bne_self_eq_false, Option.map_some, if_true, if_false, List.getD_cons_zero, List.getD_cons_succ, List.length_cons, List.length_nil, List.mem_cons, List.not_mem_nil, List.mem_append, List.nil_append, List.cons_append, List.append_nil, List.take_succ_cons, List.take_zero, List.drop_succ_cons, List.drop_zero, List.set_cons_zero, List.set_cons_succ, List.map_cons, List.map_nil, implies_true, forall_const, ne_eq]
      rw [h7, Tk.run_false hb]
      exact fpost_pure (.inr rfl) hn2 hw2 (Sub.refl _) rfl trivial trivial rfl
    · refine hgo_sound 60 ?_
      simp -implicitDefEqProofs (maxSteps := 1000000) only [simpS, ↓condJ_true, ↓condJ_false, ↓reduceIte, Nat.reduceEqDiff, Nat.reduceLT, Nat.reduceLeDiff, reduceCtorEq, Nat.reduceAdd, Nat.reduceSub, bindG_none, addG_none, hgrpK_none, nestK_none, hgrpK_guarded, Option.map_none, beq_self_eq_true, bne_self_eq_false, Option.map_some, if_true, if_false, List.getD_cons_zero, List.getD_cons_succ, List.length_cons, List.length_nil, List.mem_cons, List.not_mem_nil, List.mem_append, List.nil_append, List.cons_append, List.append_nil, List.take_succ_cons, List.take_zero, List.drop_succ_cons, List.drop_zero, List.set_cons_zero, List.set_cons_succ, List.map_cons, List.map_nil, implies_true, forall_const, ne_eq]
      rw [h7, Tk.run_true hb]
      exact fpost_pure (.inr rfl) hn2 hw2 (Sub.refl _) rfl trivial trivial rfl


end Go.Hl
