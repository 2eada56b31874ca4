/-
  Cut, at one byte; lines.
-/
import Derived.Test.YtijcddlahidhhaaDoorSgE
import Derived.Test.YtijcddlahidhhaaDoorHlZ
import Derived.Lib.Bytealg
import Derived.IntWalk
set_option linter.unusedSectionVars false
set_option linter.unusedVariables false
set_option linter.unusedSimpArgs false
set_option maxRecDepth 100000
namespace Go.Hl
open Go Go.Proofs Go.RowKit

def lenTo : List UInt8 → Nat
  | [] => 0
  | b :: r => if b = 10 then 0 else lenTo r + 1

theorem lenTo_le : ∀ l, lenTo l ≤ l.length
  | [] => Nat.le_refl _
  | b :: r => by
    have := lenTo_le r
    simp only [lenTo]
    split
    · omega
    · simp only [List.length_cons]; omega

theorem indexByte_lenTo : ∀ l : List UInt8, Lib.indexByte l 10 = if lenTo l < l.length then (lenTo l : Int) else -1
  | [] => by simp [Lib.indexByte, lenTo]
  | b :: r => by
    have ih := indexByte_lenTo r
    have hle := lenTo_le r
    by_cases hb : b = 10
    · subst hb
      simp [Lib.indexByte, lenTo]
    · have hb' : (b == 10) = false := by simpa using hb
      simp only [Lib.indexByte, lenTo, hb', if_neg hb, ih, List.length_cons, Bool.false_eq_true, if_false]
      by_cases h : lenTo r < r.length
      · rw [if_pos h, if_pos (show lenTo r + 1 < r.length + 1 by omega)]
        have h1 : ((lenTo r : Int) == -1) = false := by simp
        rw [h1]
        simp
      · rw [if_neg h, if_neg (show ¬ lenTo r + 1 < r.length + 1 by omega)]
        rfl

theorem indexByteString_calls (s : ByteArray) (b : UInt8) (σ : St) : HCalls Tryd.prog 71 [.str s, byD b] σ (fun d σ' => d = .int .i64 (Lib.indexByte s.data.toList b) ∧ σ' = σ) := by
  intro g w vs hr hl
  simp only [RL, R] at hl
  obtain ⟨_, _, rfl, rfl, _, _, rfl, rfl, rfl⟩ := hl
  show NextOk Tryd.prog _ ((callFunc 71 #[.string s, .int .u8 (b.toNat : Int)]).run Tryd.prog w)
  rw [run_callFunc_extern Tryd.func71 (by kernel_rfl) (by kernel_rfl) (by kernel_rfl) (e := Extern.BytealgIndexByte.indexByte) (by kernel_rfl), Lib.run_indexByteString]
  have hb : ((b.toNat : Int)).toNat.toUInt8 = b := by simp
  rw [hb]
  exact ⟨.int .i64 (Lib.indexByte s.data.toList b), g, σ, E.refl g w hr.gw, hr, rfl, rfl, rfl⟩

theorem lindexByte_calls (s : ByteArray) (b : UInt8) (σ : St) : HCalls Tryd.prog 63 [.str s, byD b] σ (fun d σ' => d = .int .i64 (Lib.indexByte s.data.toList b) ∧ σ' = σ) := by
  refine hcalls_body (fn := Tryd.f63) rfl c63 (by simp [h63]) (by simp [h63, Tryd.f63]) ?_
  intro M hP hr hnt hnx hwf hlt
  simp only [h63, argEnv]
  refine hgo_sound 60 ?_
  simp -implicitDefEqProofs (maxSteps := 1000000) only [simpS, ↓condJ_true, ↓condJ_false, ↓reduceIte, Nat.reduceEqDiff, Nat.reduceLT, Nat.reduceLeDiff, reduceCtorEq, Nat.reduceAdd, Nat.reduceSub, bindG_none, addG_none, hgrpK_none, nestK_none, hgrpK_guarded, Option.map_none, beq_self_eq_true, bne_self_eq_false, Option.map_some, if_true, if_false, List.getD_cons_zero, List.getD_cons_succ, List.length_cons, List.length_nil, List.mem_cons, List.not_mem_nil, List.mem_append, List.nil_append, List.cons_append, List.append_nil, List.take_succ_cons, List.take_zero, List.drop_succ_cons, List.drop_zero, List.set_cons_zero, List.set_cons_succ, List.map_cons, List.map_nil, implies_true, forall_const, ne_eq]
  refine hx_call (f := .fn 71) rfl (by rw [hP]; exact hcallD_func (indexByteString_calls s b _)) ?_
  rintro _ σ2 ⟨rfl, h⟩
  subst σ2
  refine hgo_sound 60 ?_
  simp -implicitDefEqProofs (maxSteps := 1000000) only [simpS, ↓condJ_true, ↓condJ_false, ↓reduceIte, Nat.reduceEqDiff, Nat.reduceLT, Nat.reduceLeDiff, reduceCtorEq, Nat.reduceAdd, Nat.reduceSub, bindG_none, addG_none, hgrpK_none, nestK_none, hgrpK_guarded, Option.map_none, beq_self_eq_true, bne_self_eq_false, Option.map_some, if_true, if_false, List.getD_cons_zero, List.getD_cons_succ, List.length_cons, List.length_nil, List.mem_cons, List.not_mem_nil, List.mem_append, List.nil_append, List.cons_append, List.append_nil, List.take_succ_cons, List.take_zero, List.drop_succ_cons, List.drop_zero, List.set_cons_zero, List.set_cons_succ, List.map_cons, List.map_nil, implies_true, forall_const, ne_eq]
  exact fpost_pure (σ0 := σ) (.inr rfl) (by rw [hnx]; exact Nat.le_refl _) hwf (Sub.refl σ) rfl trivial trivial ⟨rfl, rfl⟩

theorem index1_calls (s : ByteArray) (b : UInt8) (σ : St) : HCalls Tryd.prog 72 [.str s, .str ⟨#[b]⟩] σ (fun d σ' => d = .int .i64 (Lib.indexByte s.data.toList b) ∧ σ' = σ) := by
  refine hcalls_body (fn := Tryd.f72) rfl c72 (by simp [h72]) (by simp [h72, Tryd.f72]) ?_
  intro M hP hr hnt hnx hwf hlt
  simp only [h72, argEnv]
  have h1 : ((⟨#[b]⟩ : ByteArray).size : Int) = 1 := rfl
  have h2 : (⟨#[b]⟩ : ByteArray).data.getD (Int.toNat 0) 0 = b := rfl
  have h3 : ((1 : Int) == 0) = false := rfl
  refine hgo_sound 60 ?_
  simp -implicitDefEqProofs (maxSteps := 1000000) only [simpS, ↓condJ_true, ↓condJ_false, ↓reduceIte, Nat.reduceEqDiff, Nat.reduceLT, Nat.reduceLeDiff, reduceCtorEq, Nat.reduceAdd, Nat.reduceSub, bindG_none, addG_none, hgrpK_none, nestK_none, hgrpK_guarded, Option.map_none, beq_self_eq_true, bne_self_eq_false, Option.map_some, if_true, if_false, List.getD_cons_zero, List.getD_cons_succ, List.length_cons, List.length_nil, List.mem_cons, List.not_mem_nil, List.mem_append, List.nil_append, List.cons_append, List.append_nil, List.take_succ_cons, List.take_zero, List.drop_succ_cons, List.drop_zero, List.set_cons_zero, List.set_cons_succ, List.map_cons, List.map_nil, implies_true, forall_const, ne_eq, h1, h2, h3, beq_self_eq_true, Int.le_refl, show (0 : Int) < 1 by decide]
  refine ⟨fun h => ?_, fun _ => ?_⟩
  · have h' : (⟨#[b]⟩ : ByteArray) = s := by simpa using h
    subst h'
    exact fpost_pure (σ0 := σ) (.inr rfl) (by rw [hnx]; exact Nat.le_refl _) hwf (Sub.refl σ) rfl trivial trivial ⟨by simp [tupD, look, Lib.indexByte], rfl⟩
  · skip
    refine hx_call (f := .fn 63) rfl (by rw [hP]; exact hcallD_func (lindexByte_calls s b _)) ?_
    rintro _ σ2 ⟨rfl, h⟩
    subst σ2
    refine hgo_sound 60 ?_
    simp -implicitDefEqProofs (maxSteps := 1000000) only [simpS, ↓condJ_true, ↓condJ_false, ↓reduceIte, Nat.reduceEqDiff, Nat.reduceLT, Nat.reduceLeDiff, reduceCtorEq, Nat.reduceAdd, Nat.reduceSub, bindG_none, addG_none, hgrpK_none, nestK_none, hgrpK_guarded, Option.map_none, beq_self_eq_true, bne_self_eq_false, Option.map_some, if_true, if_false, List.getD_cons_zero, List.getD_cons_succ, List.length_cons, List.length_nil, List.mem_cons, List.not_mem_nil, List.mem_append, List.nil_append, List.cons_append, List.append_nil, List.take_succ_cons, List.take_zero, List.drop_succ_cons, List.drop_zero, List.set_cons_zero, List.set_cons_succ, List.map_cons, List.map_nil, implies_true, forall_const, ne_eq]
    exact fpost_pure (σ0 := σ) (.inr rfl) (by rw [hnx]; exact Nat.le_refl _) hwf (Sub.refl σ) rfl trivial trivial ⟨rfl, rfl⟩

def cutL (t : ByteArray) : List D :=
  let n := lenTo t.data.toList
  if n < t.size then [.str (t.extract 0 n), .str (t.extract (n + 1) t.size), .bool true] else [.str t, .str ⟨#[]⟩, .bool false]

theorem lcut_calls (t : ByteArray) (ht : t.size ≤ 1099511627776) (σ : St) : HCalls Tryd.prog 64 [.str t, .str ⟨#[10]⟩] σ (fun d σ' => d = .tuple (cutL t) ∧ σ' = σ) := by
  refine hcalls_body (fn := Tryd.f64) rfl c64 (by simp [h64]) (by simp [h64, Tryd.f64]) ?_
  intro M hP hr hnt hnx hwf hlt
  simp only [h64, argEnv]
  have hnt' : M.nt = 23 := hnt
  have h1 : ((⟨#[10]⟩ : ByteArray).size : Int) = 1 := rfl
  have hlen : t.data.toList.length = t.size := by simp
  refine hgo_sound 60 ?_
  simp -implicitDefEqProofs (maxSteps := 1000000) only [simpS, ↓condJ_true, ↓condJ_false, ↓reduceIte, Nat.reduceEqDiff, Nat.reduceLT, Nat.reduceLeDiff, reduceCtorEq, Nat.reduceAdd, Nat.reduceSub, bindG_none, addG_none, hgrpK_none, nestK_none, hgrpK_guarded, Option.map_none, beq_self_eq_true, bne_self_eq_false, Option.map_some, if_true, if_false, List.getD_cons_zero, List.getD_cons_succ, List.length_cons, List.length_nil, List.mem_cons, List.not_mem_nil, List.mem_append, List.nil_append, List.cons_append, List.append_nil, List.take_succ_cons, List.take_zero, List.drop_succ_cons, List.drop_zero, List.set_cons_zero, List.set_cons_succ, List.map_cons, List.map_nil, implies_true, forall_const, ne_eq]
  refine hx_call (f := .fn 72) rfl (by rw [hP]; exact hcallD_func (index1_calls t 10 _)) ?_
  rintro _ σ2 ⟨rfl, h⟩
  subst σ2
  rw [indexByte_lenTo, hlen]
  unfold cutL
  by_cases h : lenTo t.data.toList < t.size
  · simp only [if_pos h]
    have hd : decide ((lenTo t.data.toList : Int) ≥ 0) = true := by simp
    have hw : IntKind.i64.wrap ((lenTo t.data.toList : Int) + 1) = ((lenTo t.data.toList + 1 : Nat) : Int) := by rw [IntWalk.i64_in _ (by omega)]; rfl
    refine hgo_sound 12 ?_
    simp -implicitDefEqProofs (maxSteps := 1000000) only [simpS, ↓condJ_true, ↓condJ_false, ↓reduceIte, Nat.reduceEqDiff, Nat.reduceLT, Nat.reduceLeDiff, reduceCtorEq, Nat.reduceAdd, Nat.reduceSub, bindG_none, addG_none, hgrpK_none, nestK_none, hgrpK_guarded, Option.map_none, beq_self_eq_true, bne_self_eq_false, Option.map_some, if_true, if_false, List.getD_cons_zero, List.getD_cons_succ, List.length_cons, List.length_nil, List.mem_cons, List.not_mem_nil, List.mem_append, List.nil_append, List.cons_append, List.append_nil, List.take_succ_cons, List.take_zero, List.drop_succ_cons, List.drop_zero, List.set_cons_zero, List.set_cons_succ, List.map_cons, List.map_nil, implies_true, forall_const, ne_eq, hd]
    refine hx_drawgo 1 ?_
    simp -implicitDefEqProofs (maxSteps := 3000000) only [drawS, List.map_cons, List.map_nil, List.getElem?_cons_zero, List.getElem?_cons_succ, List.getElem?_nil, simpS, ↓condJ_true, ↓condJ_false, ↓reduceIte, Nat.reduceEqDiff, Nat.reduceLT, Nat.reduceLeDiff, reduceCtorEq, Nat.reduceAdd, Nat.reduceSub, bindG_none, addG_none, hgrpK_none, nestK_none, hgrpK_guarded, Option.map_none, beq_self_eq_true, bne_self_eq_false, Option.map_some, if_true, if_false, List.getD_cons_zero, List.getD_cons_succ, List.length_cons, List.length_nil, List.mem_cons, List.not_mem_nil, List.mem_append, List.nil_append, List.cons_append, List.append_nil, List.take_succ_cons, List.take_zero, List.drop_succ_cons, List.drop_zero, List.set_cons_zero, List.set_cons_succ, List.map_cons, List.map_nil, implies_true, forall_const, ne_eq, hnt', h1, hw, Int.toNat_natCast]
    refine ⟨by omega, ?_⟩
    refine hgo_sound 60 ?_
    simp -implicitDefEqProofs (maxSteps := 1000000) only [simpS, ↓condJ_true, ↓condJ_false, ↓reduceIte, Nat.reduceEqDiff, Nat.reduceLT, Nat.reduceLeDiff, reduceCtorEq, Nat.reduceAdd, Nat.reduceSub, bindG_none, addG_none, hgrpK_none, nestK_none, hgrpK_guarded, Option.map_none, beq_self_eq_true, bne_self_eq_false, Option.map_some, if_true, if_false, List.getD_cons_zero, List.getD_cons_succ, List.length_cons, List.length_nil, List.mem_cons, List.not_mem_nil, List.mem_append, List.nil_append, List.cons_append, List.append_nil, List.take_succ_cons, List.take_zero, List.drop_succ_cons, List.drop_zero, List.set_cons_zero, List.set_cons_succ, List.map_cons, List.map_nil, implies_true, forall_const, ne_eq]
    exact fpost_pure (σ0 := σ) (.inr rfl) (by rw [hnx]; exact Nat.le_refl _) hwf (Sub.refl σ) rfl trivial ⟨trivial, trivial, trivial, trivial⟩ ⟨rfl, rfl⟩
  · simp only [if_neg h]
    have hd : decide ((-1 : Int) ≥ 0) = false := rfl
    refine hgo_sound 60 ?_
    simp -implicitDefEqProofs (maxSteps := 1000000) only [simpS, ↓condJ_true, ↓condJ_false, ↓reduceIte, Nat.reduceEqDiff, Nat.reduceLT, Nat.reduceLeDiff, reduceCtorEq, Nat.reduceAdd, Nat.reduceSub, bindG_none, addG_none, hgrpK_none, nestK_none, hgrpK_guarded, Option.map_none, beq_self_eq_true, bne_self_eq_false, Option.map_some, if_true, if_false, List.getD_cons_zero, List.getD_cons_succ, List.length_cons, List.length_nil, List.mem_cons, List.not_mem_nil, List.mem_append, List.nil_append, List.cons_append, List.append_nil, List.take_succ_cons, List.take_zero, List.drop_succ_cons, List.drop_zero, List.set_cons_zero, List.set_cons_succ, List.map_cons, List.map_nil, implies_true, forall_const, ne_eq, hd]
    exact fpost_pure (σ0 := σ) (.inr rfl) (by rw [hnx]; exact Nat.le_refl _) hwf (Sub.refl σ) rfl trivial ⟨trivial, trivial, trivial, trivial⟩ ⟨rfl, rfl⟩

theorem cut_calls (t : ByteArray) (ht : t.size ≤ 1099511627776) (σ : St) : HCalls Tryd.prog 55 [.str t, .str ⟨#[10]⟩] σ (fun d σ' => d = .tuple (cutL t) ∧ σ' = σ) := by
  refine hcalls_body (fn := Tryd.f55) rfl c55 (by simp [h55]) (by simp [h55, Tryd.f55]) ?_
  intro M hP hr hnt hnx hwf hlt
  simp only [h55, argEnv]
  refine hgo_sound 60 ?_
  simp -implicitDefEqProofs (maxSteps := 1000000) only [simpS, ↓condJ_true, ↓condJ_false, ↓reduceIte, Nat.reduceEqDiff, Nat.reduceLT, Nat.reduceLeDiff, reduceCtorEq, Nat.reduceAdd, Nat.reduceSub, bindG_none, addG_none, hgrpK_none, nestK_none, hgrpK_guarded, Option.map_none, beq_self_eq_true, bne_self_eq_false, Option.map_some, if_true, if_false, List.getD_cons_zero, List.getD_cons_succ, List.length_cons, List.length_nil, List.mem_cons, List.not_mem_nil, List.mem_append, List.nil_append, List.cons_append, List.append_nil, List.take_succ_cons, List.take_zero, List.drop_succ_cons, List.drop_zero, List.set_cons_zero, List.set_cons_succ, List.map_cons, List.map_nil, implies_true, forall_const, ne_eq]
  refine hx_call (f := .fn 64) rfl (by rw [hP]; exact hcallD_func (lcut_calls t ht _)) ?_
  rintro _ σ2 ⟨rfl, h⟩
  subst σ2
  unfold cutL
  by_cases h : lenTo t.data.toList < t.size
  · simp only [if_pos h]
    refine hgo_sound 60 ?_
    simp -implicitDefEqProofs (maxSteps := 1000000) only [simpS, ↓condJ_true, ↓condJ_false, ↓reduceIte, Nat.reduceEqDiff, Nat.reduceLT, Nat.reduceLeDiff, reduceCtorEq, Nat.reduceAdd, Nat.reduceSub, bindG_none, addG_none, hgrpK_none, nestK_none, hgrpK_guarded, Option.map_none, beq_self_eq_true, bne_self_eq_false, Option.map_some, if_true, if_false, List.getD_cons_zero, List.getD_cons_succ, List.length_cons, List.length_nil, List.mem_cons, List.not_mem_nil, List.mem_append, List.nil_append, List.cons_append, List.append_nil, List.take_succ_cons, List.take_zero, List.drop_succ_cons, List.drop_zero, List.set_cons_zero, List.set_cons_succ, List.map_cons, List.map_nil, implies_true, forall_const, ne_eq]
    exact fpost_pure (σ0 := σ) (.inr rfl) (by rw [hnx]; exact Nat.le_refl _) hwf (Sub.refl σ) rfl trivial ⟨trivial, trivial, trivial, trivial⟩ ⟨rfl, rfl⟩
  · simp only [if_neg h]
    refine hgo_sound 60 ?_
    simp -implicitDefEqProofs (maxSteps := 1000000) only [simpS, ↓condJ_true, ↓condJ_false, ↓reduceIte, Nat.reduceEqDiff, Nat.reduceLT, Nat.reduceLeDiff, reduceCtorEq, Nat.reduceAdd, Nat.reduceSub, bindG_none, addG_none, hgrpK_none, nestK_none, hgrpK_guarded, Option.map_none, beq_self_eq_true, bne_self_eq_false, Option.map_some, if_true, if_false, List.getD_cons_zero, List.getD_cons_succ, List.length_cons, List.length_nil, List.mem_cons, List.not_mem_nil, List.mem_append, List.nil_append, List.cons_append, List.append_nil, List.take_succ_cons, List.take_zero, List.drop_succ_cons, List.drop_zero, List.set_cons_zero, List.set_cons_succ, List.map_cons, List.map_nil, implies_true, forall_const, ne_eq]
    exact fpost_pure (σ0 := σ) (.inr rfl) (by rw [hnx]; exact Nat.le_refl _) hwf (Sub.refl σ) rfl trivial ⟨trivial, trivial, trivial, trivial⟩ ⟨rfl, rfl⟩

end Go.Hl
