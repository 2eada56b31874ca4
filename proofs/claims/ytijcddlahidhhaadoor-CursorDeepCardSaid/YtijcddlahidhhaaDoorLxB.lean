/-
  Layer 6: the token that a text begins with.
-/
import Derived.Test.YtijcddlahidhhaaDoorLxA
import Derived.Test.YtijcddlahidhhaaDoorShelf
import Derived.Lib.Index
set_option linter.unusedSectionVars false
set_option linter.unusedVariables false
set_option linter.unusedSimpArgs false
set_option maxRecDepth 100000
namespace Go.Hl
open Go Go.Proofs Go.RowKit

structure GM (σ : St) : Prop where
  gk : GK σ
  ml : ∃ m, σ.glob 1 = some [.int .i64 m]
theorem GM.to {σ σ' : St} (h : GM σ) (e : σ'.glob = σ.glob) : GM σ' := ⟨h.gk.to e, by rw [e]; exact h.ml⟩

theorem linside_calls (b : UInt8) (σ : St) : HCalls Tryd.prog 50 [byD b] σ (fun d σ' => d = .bool (insP b) ∧ σ' = σ) := by
  refine hcalls_body (fn := Tryd.f50) rfl c50 (by simp [h50]) (by simp [h50, Tryd.f50]) ?_
  intro M hP hr hnt hnx hwf hlt
  simp only [h50, argEnv]
  have hnt' : M.nt = 9 := hnt
  refine hgo_sound 60 ?_
  simp -implicitDefEqProofs (maxSteps := 1000000) only [simpS, ↓condJ_true, ↓condJ_false, ↓reduceIte, Nat.reduceEqDiff, Nat.reduceLT, Nat.reduceLeDiff, reduceCtorEq, Nat.reduceAdd, Nat.reduceSub, bindG_none, addG_none, hgrpK_none, nestK_none, hgrpK_guarded, Option.map_none, beq_self_eq_true, bne_self_eq_false, Option.map_some, if_true, if_false, List.getD_cons_zero, List.getD_cons_succ, List.length_cons, List.length_nil, List.mem_cons, List.not_mem_nil, List.mem_append, List.nil_append, List.cons_append, List.append_nil, List.take_succ_cons, List.take_zero, List.drop_succ_cons, List.drop_zero, List.set_cons_zero, List.set_cons_succ, List.map_cons, List.map_nil, implies_true, forall_const, ne_eq]
  refine hx_call (f := .fn 58) rfl (by rw [hP]; exact hcallD_func (letter_calls b _)) ?_
  rintro _ σ2 ⟨rfl, h⟩
  subst σ2
  unfold insP
  cases h1 : isLet b
  · refine hgo_sound 60 ?_
    simp -implicitDefEqProofs (maxSteps := 1000000) only [simpS, ↓condJ_true, ↓condJ_false, ↓reduceIte, Nat.reduceEqDiff, Nat.reduceLT, Nat.reduceLeDiff, reduceCtorEq, Nat.reduceAdd, Nat.reduceSub, bindG_none, addG_none, hgrpK_none, nestK_none, hgrpK_guarded, Option.map_none, beq_self_eq_true, bne_self_eq_false, Option.map_some, if_true, if_false, List.getD_cons_zero, List.getD_cons_succ, List.length_cons, List.length_nil, List.mem_cons, List.not_mem_nil, List.mem_append, List.nil_append, List.cons_append, List.append_nil, List.take_succ_cons, List.take_zero, List.drop_succ_cons, List.drop_zero, List.set_cons_zero, List.set_cons_succ, List.map_cons, List.map_nil, implies_true, forall_const, ne_eq]
    refine hx_call (f := .fn 59) rfl (by rw [hP]; exact hcallD_func (figure_calls b _)) ?_
    rintro _ σ2 ⟨rfl, h⟩
    subst σ2
    refine hgo_sound 60 ?_
    simp -implicitDefEqProofs (maxSteps := 1000000) only [simpS, ↓condJ_true, ↓condJ_false, ↓reduceIte, Nat.reduceEqDiff, Nat.reduceLT, Nat.reduceLeDiff, reduceCtorEq, Nat.reduceAdd, Nat.reduceSub, bindG_none, addG_none, hgrpK_none, nestK_none, hgrpK_guarded, Option.map_none, beq_self_eq_true, bne_self_eq_false, Option.map_some, if_true, if_false, List.getD_cons_zero, List.getD_cons_succ, List.length_cons, List.length_nil, List.mem_cons, List.not_mem_nil, List.mem_append, List.nil_append, List.cons_append, List.append_nil, List.take_succ_cons, List.take_zero, List.drop_succ_cons, List.drop_zero, List.set_cons_zero, List.set_cons_succ, List.map_cons, List.map_nil, implies_true, forall_const, ne_eq]
    exact fpost_pure (σ0 := σ) (.inr rfl) (by rw [hnx]; exact Nat.le_refl _) hwf (by first | exact Sub.refl σ | exact (((Ext.refl _).new _).sub hwf)) rfl trivial (by repeat' (first | trivial | apply And.intro)) ⟨by simp [tupD, look], rfl⟩
  · refine hgo_sound 60 ?_
    simp -implicitDefEqProofs (maxSteps := 1000000) only [simpS, ↓condJ_true, ↓condJ_false, ↓reduceIte, Nat.reduceEqDiff, Nat.reduceLT, Nat.reduceLeDiff, reduceCtorEq, Nat.reduceAdd, Nat.reduceSub, bindG_none, addG_none, hgrpK_none, nestK_none, hgrpK_guarded, Option.map_none, beq_self_eq_true, bne_self_eq_false, Option.map_some, if_true, if_false, List.getD_cons_zero, List.getD_cons_succ, List.length_cons, List.length_nil, List.mem_cons, List.not_mem_nil, List.mem_append, List.nil_append, List.cons_append, List.append_nil, List.take_succ_cons, List.take_zero, List.drop_succ_cons, List.drop_zero, List.set_cons_zero, List.set_cons_succ, List.map_cons, List.map_nil, implies_true, forall_const, ne_eq]
    exact fpost_pure (σ0 := σ) (.inr rfl) (by rw [hnx]; exact Nat.le_refl _) hwf (by first | exact Sub.refl σ | exact (((Ext.refl _).new _).sub hwf)) rfl trivial (by repeat' (first | trivial | apply And.intro)) ⟨by simp [tupD, look], rfl⟩

theorem hasPrefix_calls (s p : ByteArray) (σ : St) : HCalls Tryd.prog 47 [.str s, .str p] σ (fun d σ' => d = .bool (p.data.toList.isPrefixOf s.data.toList) ∧ σ' = σ) := by
  refine hcalls_plain (by kernel_rfl) fun g w vs hr hl => ?_
  simp only [RL, R] at hl
  obtain ⟨u0, us, rfl, rfl, u1, us1, rfl, rfl, rfl⟩ := hl
  refine (Tryd.strings_HasPrefix s p w).mono ?_
  rintro e w' ⟨rfl, rfl⟩
  exact ⟨_, .bool (p.data.toList.isPrefixOf s.data.toList), rfl, E.refl g _ hr.gw, hr, by simp only [R]; rfl, rfl, rfl⟩

theorem lhasPrefix_calls (s p : ByteArray) (σ : St) : HCalls Tryd.prog 54 [.str s, .str p] σ (fun d σ' => d = .bool (p.data.toList.isPrefixOf s.data.toList) ∧ σ' = σ) := by
  refine hcalls_plain (by kernel_rfl) fun g w vs hr hl => ?_
  simp only [RL, R] at hl
  obtain ⟨u0, us, rfl, rfl, u1, us1, rfl, rfl, rfl⟩ := hl
  refine (Tryd.stringslite_HasPrefix s p w).mono ?_
  rintro e w' ⟨rfl, rfl⟩
  exact ⟨_, .bool (p.data.toList.isPrefixOf s.data.toList), rfl, E.refl g _ hr.gw, hr, by simp only [R]; rfl, rfl, rfl⟩

theorem index_calls (s p : ByteArray) (hs : s.size ≤ 1073741824) (σ : St) (hg : GM σ) : HCalls Tryd.prog 65 [.str s, .str p] σ (fun d σ' => d = .int .i64 (Lib.index s.data.toList p.data.toList) ∧ σ' = σ) := by
  refine hcalls_plain (by kernel_rfl) fun g w vs hr hl => ?_
  simp only [RL, R] at hl
  obtain ⟨u0, us, rfl, rfl, u1, us1, rfl, rfl, rfl⟩ := hl
  obtain ⟨m, hm⟩ := hg.ml
  obtain ⟨u, hu, hR⟩ := (hr.glob _ _ hm).cell (i := 0) (d := .int .i64 m) rfl
  simp only [R] at hR
  subst hR
  refine (Tryd.strings_Index s p m w (by omega) hu).mono ?_
  rintro e w' ⟨rfl, rfl⟩
  exact ⟨_, .int .i64 (Lib.index s.data.toList p.data.toList), rfl, E.refl g _ hr.gw, hr, by simp only [R], rfl, rfl⟩

abbrev prnL : List UInt8 := [83, 121, 115, 116, 101, 109, 46, 111, 117, 116, 46, 112, 114, 105, 110, 116, 108, 110]
abbrev sgnL : List UInt8 := [123, 125, 40, 41, 91, 93, 59, 44, 46, 61, 60, 43, 45, 42, 33]

def ix2 : List UInt8 → Option Nat
  | [] => none
  | b :: r => if [42, 47].isPrefixOf (b :: r) then some 0 else (ix2 r).map (· + 1)
theorem index_ix2 : ∀ l : List UInt8, Lib.index l [42, 47] = match ix2 l with | some i => (i : Int) | none => -1
  | [] => rfl
  | b :: r => by
    have ih := index_ix2 r
    simp only [Lib.index, ix2]
    by_cases h : [42, 47].isPrefixOf (b :: r) = true
    · rw [if_pos h, if_pos h]; rfl
    · rw [if_neg h, if_neg h, ih]
      cases hx : ix2 r with
      | none => rfl
      | some i =>
        have : ((i : Int) == -1) = false := by simp
        simp only [Option.map_some, this, Bool.false_eq_true, if_false]
        rfl
theorem ix2_le : ∀ (l : List UInt8) (i : Nat), ix2 l = some i → i + 2 ≤ l.length
  | [], i, h => by cases h
  | b :: r, i, h => by
    simp only [ix2] at h
    split at h
    · rename_i hp
      injection h with h
      subst h
      have := (List.isPrefixOf_iff_prefix.1 hp).length_le
      simpa using this
    · obtain ⟨j, hj, rfl⟩ := Option.map_eq_some_iff.1 h
      have := ix2_le r j hj
      simp only [List.length_cons]
      omega

def prnd (l : List UInt8) : Bool := prnL.isPrefixOf l && (match l.drop 18 with | [] => true | c :: _ => !insP c)
def wordK (s : ByteArray) : Nat := if isKw s then 3 else if isWord s then 4 else if numE s = 0 then 5 else 7
def sgl (c : UInt8) : Bool := decide (Lib.indexByte sgnL c ≥ 0)
abbrev bsL (l : List UInt8) : ByteArray := ⟨l.toArray⟩

def lexN (l : List UInt8) : Nat × Nat :=
  if isBlk (l.headD 0) then (1, runTo isBlk l)
  else if [47, 47].isPrefixOf l then (2, lenTo l)
  else if [47, 42].isPrefixOf l then (match ix2 (l.drop 2) with | some i => (2, i + 4) | none => (7, l.length))
  else if prnd l then (3, 18)
  else if insP (l.headD 0) then (wordK (bsL (l.take (runTo insP l))), runTo insP l)
  else if [38, 38].isPrefixOf l then (6, 2)
  else if sgl (l.headD 0) then (6, 1) else (7, 1)

theorem runTo_le (p : UInt8 → Bool) (l : List UInt8) : runTo p l ≤ l.length := (runTo_all p l).1
theorem runTo_pos (p : UInt8 → Bool) : ∀ (l : List UInt8), l ≠ [] → p (l.headD 0) = true → 1 ≤ runTo p l
  | [], h, _ => absurd rfl h
  | b :: r, _, h => by
    simp only [List.headD_cons] at h
    simp only [runTo, h, if_true]
    omega

theorem lexN_len (l : List UInt8) (h : l ≠ []) : 1 ≤ (lexN l).2 ∧ (lexN l).2 ≤ l.length := by
  have hl : 1 ≤ l.length := by cases l with | nil => exact absurd rfl h | cons => simp
  unfold lexN
  split
  · rename_i hb
    exact ⟨runTo_pos _ l h hb, runTo_le _ l⟩
  split
  · rename_i hp
    obtain ⟨t, rfl⟩ := List.isPrefixOf_iff_prefix.1 hp
    have := lenTo_le ([47, 47] ++ t)
    refine ⟨?_, this⟩
    simp [lenTo]
  split
  · rename_i hp
    split
    · rename_i i hi
      have := ix2_le _ _ hi
      rw [List.length_drop] at this
      simp only
      omega
    · exact ⟨hl, Nat.le_refl _⟩
  split
  · rename_i hp
    simp only [prnd, Bool.and_eq_true] at hp
    have := (List.isPrefixOf_iff_prefix.1 hp.1).length_le
    simp only [List.length_cons, List.length_nil] at this
    exact ⟨by decide, by simp only; omega⟩
  split
  · rename_i hb
    exact ⟨runTo_pos _ l h hb, runTo_le _ l⟩
  split
  · rename_i hp
    have := (List.isPrefixOf_iff_prefix.1 hp).length_le
    simp only [List.length_cons, List.length_nil] at this
    exact ⟨by decide, by simp only; omega⟩
  split <;> exact ⟨Nat.le_refl _, hl⟩

theorem len_list (s : ByteArray) : s.data.toList.length = s.size := by simp
theorem ex_drop (s : ByteArray) (a : Nat) : (s.extract a s.size).data.toList = s.data.toList.drop a := by
  rw [ByteArray.data_extract]
  simp [List.extract, List.take_of_length_le]
theorem ex_take (s : ByteArray) (n : Nat) : s.extract 0 n = bsL (s.data.toList.take n) := by
  apply ByteArray.ext
  apply Array.toList_inj.1
  rw [ByteArray.data_extract]
  simp [List.extract]

theorem upto_calls (s : ByteArray) (hs : s.size ≤ 1073741824) (σ : St) (hg : GM σ) : HCalls Tryd.prog 56 [.str s, .str ⟨#[42, 47]⟩] σ (fun d σ' => d = .tuple (match ix2 s.data.toList with | some i => [.int .i64 ((i + 2 : Nat) : Int), .bool true] | none => [.int .i64 (s.size : Int), .bool false]) ∧ σ' = σ) := by
  refine hcalls_body (fn := Tryd.f56) rfl c56 (by simp [h56]) (by simp [h56, Tryd.f56]) ?_
  intro M hP hr hnt hnx hwf hlt
  simp only [h56, argEnv]
  refine hgo_sound 60 ?_
  simp -implicitDefEqProofs (maxSteps := 1000000) only [simpS, ↓condJ_true, ↓condJ_false, ↓reduceIte, Nat.reduceEqDiff, Nat.reduceLT, Nat.reduceLeDiff, reduceCtorEq, Nat.reduceAdd, Nat.reduceSub, bindG_none, addG_none, hgrpK_none, nestK_none, hgrpK_guarded, Option.map_none, beq_self_eq_true, bne_self_eq_false, Option.map_some, if_true, if_false, List.getD_cons_zero, List.getD_cons_succ, List.length_cons, List.length_nil, List.mem_cons, List.not_mem_nil, List.mem_append, List.nil_append, List.cons_append, List.append_nil, List.take_succ_cons, List.take_zero, List.drop_succ_cons, List.drop_zero, List.set_cons_zero, List.set_cons_succ, List.map_cons, List.map_nil, implies_true, forall_const, ne_eq]
  refine hx_call (f := .fn 65) rfl (by rw [hP]; exact hcallD_func (index_calls s ⟨#[42, 47]⟩ hs _ hg)) ?_
  rintro _ σ2 ⟨rfl, h⟩
  subst σ2
  have h1 : Lib.index s.data.toList (⟨#[42, 47]⟩ : ByteArray).data.toList = _ := index_ix2 s.data.toList
  rw [h1]
  cases hx : ix2 s.data.toList with
  | none =>
    refine hgo_sound 60 ?_
    simp -implicitDefEqProofs (maxSteps := 1000000) only [simpS, ↓condJ_true, ↓condJ_false, ↓reduceIte, Nat.reduceEqDiff, Nat.reduceLT, Nat.reduceLeDiff, reduceCtorEq, Nat.reduceAdd, Nat.reduceSub, bindG_none, addG_none, hgrpK_none, nestK_none, hgrpK_guarded, Option.map_none, beq_self_eq_true, bne_self_eq_false, Option.map_some, if_true, if_false, List.getD_cons_zero, List.getD_cons_succ, List.length_cons, List.length_nil, List.mem_cons, List.not_mem_nil, List.mem_append, List.nil_append, List.cons_append, List.append_nil, List.take_succ_cons, List.take_zero, List.drop_succ_cons, List.drop_zero, List.set_cons_zero, List.set_cons_succ, List.map_cons, List.map_nil, implies_true, forall_const, ne_eq, show decide ((-1 : Int) < 0) = true by rfl]
    exact fpost_pure (σ0 := σ) (.inr rfl) (by rw [hnx]; exact Nat.le_refl _) hwf (by first | exact Sub.refl σ | exact (((Ext.refl _).new _).sub hwf)) rfl trivial (by repeat' (first | trivial | apply And.intro)) ⟨rfl, rfl⟩
  | some i =>
    have hle := ix2_le _ _ hx
    rw [len_list] at hle
    have hd : decide ((i : Int) < 0) = false := by simp
    have hz : (((⟨#[42, 47]⟩ : ByteArray).size : Nat) : Int) = 2 := rfl
    have hw : IntKind.i64.wrap ((i : Int) + 2) = ((i + 2 : Nat) : Int) := by rw [IntWalk.i64_in _ (by omega)]; rfl
    refine hgo_sound 60 ?_
    simp -implicitDefEqProofs (maxSteps := 1000000) only [simpS, ↓condJ_true, ↓condJ_false, ↓reduceIte, Nat.reduceEqDiff, Nat.reduceLT, Nat.reduceLeDiff, reduceCtorEq, Nat.reduceAdd, Nat.reduceSub, bindG_none, addG_none, hgrpK_none, nestK_none, hgrpK_guarded, Option.map_none, beq_self_eq_true, bne_self_eq_false, Option.map_some, if_true, if_false, List.getD_cons_zero, List.getD_cons_succ, List.length_cons, List.length_nil, List.mem_cons, List.not_mem_nil, List.mem_append, List.nil_append, List.cons_append, List.append_nil, List.take_succ_cons, List.take_zero, List.drop_succ_cons, List.drop_zero, List.set_cons_zero, List.set_cons_succ, List.map_cons, List.map_nil, implies_true, forall_const, ne_eq, hd, hz, hw]
    exact fpost_pure (σ0 := σ) (.inr rfl) (by rw [hnx]; exact Nat.le_refl _) hwf (by first | exact Sub.refl σ | exact (((Ext.refl _).new _).sub hwf)) rfl trivial (by repeat' (first | trivial | apply And.intro)) ⟨rfl, rfl⟩

theorem note_calls (s : ByteArray) (hs : s.size ≤ 1073741824) (hp : ([47, 47] : List UInt8).isPrefixOf s.data.toList || ([47, 42] : List UInt8).isPrefixOf s.data.toList) (σ : St) (hg : GM σ) :
    HCalls Tryd.prog 48 [.str s] σ (fun d σ' => d = .tuple (if ([47, 47] : List UInt8).isPrefixOf s.data.toList then [.int .i64 2, .int .i64 (lenTo s.data.toList : Int)] else match ix2 (s.data.toList.drop 2) with | some i => [.int .i64 2, .int .i64 ((i + 4 : Nat) : Int)] | none => [.int .i64 7, .int .i64 (s.size : Int)]) ∧ σ' = σ) := by
  refine hcalls_body (fn := Tryd.f48) rfl c48 (by simp [h48]) (by simp [h48, Tryd.f48]) ?_
  intro M hP hr hnt hnx hwf hlt
  simp only [h48, argEnv]
  refine hgo_sound 60 ?_
  simp -implicitDefEqProofs (maxSteps := 1000000) only [simpS, ↓condJ_true, ↓condJ_false, ↓reduceIte, Nat.reduceEqDiff, Nat.reduceLT, Nat.reduceLeDiff, reduceCtorEq, Nat.reduceAdd, Nat.reduceSub, bindG_none, addG_none, hgrpK_none, nestK_none, hgrpK_guarded, Option.map_none, beq_self_eq_true, bne_self_eq_false, Option.map_some, if_true, if_false, List.getD_cons_zero, List.getD_cons_succ, List.length_cons, List.length_nil, List.mem_cons, List.not_mem_nil, List.mem_append, List.nil_append, List.cons_append, List.append_nil, List.take_succ_cons, List.take_zero, List.drop_succ_cons, List.drop_zero, List.set_cons_zero, List.set_cons_succ, List.map_cons, List.map_nil, implies_true, forall_const, ne_eq]
  refine hx_call (f := .fn 47) rfl (by rw [hP]; exact hcallD_func (hasPrefix_calls s ⟨#[47, 47]⟩ _)) ?_
  rintro _ σ2 ⟨rfl, h⟩
  subst σ2
  have h1 : (⟨#[47, 47]⟩ : ByteArray).data.toList = [47, 47] := rfl
  rw [h1]
  cases h2 : ([47, 47] : List UInt8).isPrefixOf s.data.toList
  · rw [h2, Bool.false_or] at hp
    have hlen := (List.isPrefixOf_iff_prefix.1 hp).length_le
    rw [len_list] at hlen
    simp only [List.length_cons, List.length_nil] at hlen
    have h02 : (0 : Int) ≤ 2 ∧ (2 : Int) ≤ (s.size : Int) := by omega
    have hz : (s.extract 2 s.size).size = s.size - 2 := by rw [ByteArray.size_extract]; omega
    have hdr := ex_drop s 2
    have htn : (2 : Int).toNat = 2 := rfl
    refine hgo_sound 60 ?_
    simp -implicitDefEqProofs (maxSteps := 1000000) only [simpS, ↓condJ_true, ↓condJ_false, ↓reduceIte, Nat.reduceEqDiff, Nat.reduceLT, Nat.reduceLeDiff, reduceCtorEq, Nat.reduceAdd, Nat.reduceSub, bindG_none, addG_none, hgrpK_none, nestK_none, hgrpK_guarded, Option.map_none, beq_self_eq_true, bne_self_eq_false, Option.map_some, if_true, if_false, List.getD_cons_zero, List.getD_cons_succ, List.length_cons, List.length_nil, List.mem_cons, List.not_mem_nil, List.mem_append, List.nil_append, List.cons_append, List.append_nil, List.take_succ_cons, List.take_zero, List.drop_succ_cons, List.drop_zero, List.set_cons_zero, List.set_cons_succ, List.map_cons, List.map_nil, implies_true, forall_const, ne_eq, h02.1, h02.2, htn]
    refine hx_call (f := .fn 56) rfl (by rw [hP]; exact hcallD_func (upto_calls (s.extract 2 s.size) (by omega) _ hg)) ?_
    rintro _ σ2 ⟨rfl, h⟩
    subst σ2
    rw [hdr]
    cases hx : ix2 (s.data.toList.drop 2) with
    | none =>
      refine hgo_sound 60 ?_
      simp -implicitDefEqProofs (maxSteps := 1000000) only [simpS, ↓condJ_true, ↓condJ_false, ↓reduceIte, Nat.reduceEqDiff, Nat.reduceLT, Nat.reduceLeDiff, reduceCtorEq, Nat.reduceAdd, Nat.reduceSub, bindG_none, addG_none, hgrpK_none, nestK_none, hgrpK_guarded, Option.map_none, beq_self_eq_true, bne_self_eq_false, Option.map_some, if_true, if_false, List.getD_cons_zero, List.getD_cons_succ, List.length_cons, List.length_nil, List.mem_cons, List.not_mem_nil, List.mem_append, List.nil_append, List.cons_append, List.append_nil, List.take_succ_cons, List.take_zero, List.drop_succ_cons, List.drop_zero, List.set_cons_zero, List.set_cons_succ, List.map_cons, List.map_nil, implies_true, forall_const, ne_eq]
      exact fpost_pure (σ0 := σ) (.inr rfl) (by rw [hnx]; exact Nat.le_refl _) hwf (by first | exact Sub.refl σ | exact (((Ext.refl _).new _).sub hwf)) rfl trivial (by repeat' (first | trivial | apply And.intro)) ⟨rfl, rfl⟩
    | some i =>
      have hle := ix2_le _ _ hx
      rw [List.length_drop, len_list] at hle
      have hw : IntKind.i64.wrap (2 + ((i + 2 : Nat) : Int)) = ((i + 4 : Nat) : Int) := by rw [IntWalk.i64_in _ (by omega)]; omega
      refine hgo_sound 60 ?_
      simp -implicitDefEqProofs (maxSteps := 1000000) only [simpS, ↓condJ_true, ↓condJ_false, ↓reduceIte, Nat.reduceEqDiff, Nat.reduceLT, Nat.reduceLeDiff, reduceCtorEq, Nat.reduceAdd, Nat.reduceSub, bindG_none, addG_none, hgrpK_none, nestK_none, hgrpK_guarded, Option.map_none, beq_self_eq_true, bne_self_eq_false, Option.map_some, if_true, if_false, List.getD_cons_zero, List.getD_cons_succ, List.length_cons, List.length_nil, List.mem_cons, List.not_mem_nil, List.mem_append, List.nil_append, List.cons_append, List.append_nil, List.take_succ_cons, List.take_zero, List.drop_succ_cons, List.drop_zero, List.set_cons_zero, List.set_cons_succ, List.map_cons, List.map_nil, implies_true, forall_const, ne_eq, hw]
      exact fpost_pure (σ0 := σ) (.inr rfl) (by rw [hnx]; exact Nat.le_refl _) hwf (by first | exact Sub.refl σ | exact (((Ext.refl _).new _).sub hwf)) rfl trivial (by repeat' (first | trivial | apply And.intro)) ⟨rfl, rfl⟩
  · refine hgo_sound 60 ?_
    simp -implicitDefEqProofs (maxSteps := 1000000) only [simpS, ↓condJ_true, ↓condJ_false, ↓reduceIte, Nat.reduceEqDiff, Nat.reduceLT, Nat.reduceLeDiff, reduceCtorEq, Nat.reduceAdd, Nat.reduceSub, bindG_none, addG_none, hgrpK_none, nestK_none, hgrpK_guarded, Option.map_none, beq_self_eq_true, bne_self_eq_false, Option.map_some, if_true, if_false, List.getD_cons_zero, List.getD_cons_succ, List.length_cons, List.length_nil, List.mem_cons, List.not_mem_nil, List.mem_append, List.nil_append, List.cons_append, List.append_nil, List.take_succ_cons, List.take_zero, List.drop_succ_cons, List.drop_zero, List.set_cons_zero, List.set_cons_succ, List.map_cons, List.map_nil, implies_true, forall_const, ne_eq]
    refine hx_call (f := .fn 55) rfl (by rw [hP]; exact hcallD_func (cut_calls s (by omega) _)) ?_
    rintro _ σ2 ⟨rfl, h⟩
    subst σ2
    have hle := lenTo_le s.data.toList
    rw [len_list] at hle
    unfold cutL
    by_cases h : lenTo s.data.toList < s.size
    · have hz : ((s.extract 0 (lenTo s.data.toList)).size : Int) = (lenTo s.data.toList : Int) := by rw [ByteArray.size_extract]; omega
      simp only [if_pos h]
      refine hgo_sound 60 ?_
      simp -implicitDefEqProofs (maxSteps := 1000000) only [simpS, ↓condJ_true, ↓condJ_false, ↓reduceIte, Nat.reduceEqDiff, Nat.reduceLT, Nat.reduceLeDiff, reduceCtorEq, Nat.reduceAdd, Nat.reduceSub, bindG_none, addG_none, hgrpK_none, nestK_none, hgrpK_guarded, Option.map_none, beq_self_eq_true, bne_self_eq_false, Option.map_some, if_true, if_false, List.getD_cons_zero, List.getD_cons_succ, List.length_cons, List.length_nil, List.mem_cons, List.not_mem_nil, List.mem_append, List.nil_append, List.cons_append, List.append_nil, List.take_succ_cons, List.take_zero, List.drop_succ_cons, List.drop_zero, List.set_cons_zero, List.set_cons_succ, List.map_cons, List.map_nil, implies_true, forall_const, ne_eq, hz]
      exact fpost_pure (σ0 := σ) (.inr rfl) (by rw [hnx]; exact Nat.le_refl _) hwf (by first | exact Sub.refl σ | exact (((Ext.refl _).new _).sub hwf)) rfl trivial (by repeat' (first | trivial | apply And.intro)) ⟨rfl, rfl⟩
    · have hz : (s.size : Int) = (lenTo s.data.toList : Int) := by omega
      simp only [if_neg h]
      refine hgo_sound 60 ?_
      simp -implicitDefEqProofs (maxSteps := 1000000) only [simpS, ↓condJ_true, ↓condJ_false, ↓reduceIte, Nat.reduceEqDiff, Nat.reduceLT, Nat.reduceLeDiff, reduceCtorEq, Nat.reduceAdd, Nat.reduceSub, bindG_none, addG_none, hgrpK_none, nestK_none, hgrpK_guarded, Option.map_none, beq_self_eq_true, bne_self_eq_false, Option.map_some, if_true, if_false, List.getD_cons_zero, List.getD_cons_succ, List.length_cons, List.length_nil, List.mem_cons, List.not_mem_nil, List.mem_append, List.nil_append, List.cons_append, List.append_nil, List.take_succ_cons, List.take_zero, List.drop_succ_cons, List.drop_zero, List.set_cons_zero, List.set_cons_succ, List.map_cons, List.map_nil, implies_true, forall_const, ne_eq, hz]
      exact fpost_pure (σ0 := σ) (.inr rfl) (by rw [hnx]; exact Nat.le_refl _) hwf (by first | exact Sub.refl σ | exact (((Ext.refl _).new _).sub hwf)) rfl trivial (by repeat' (first | trivial | apply And.intro)) ⟨rfl, rfl⟩

theorem lcutPrefix_calls (s p : ByteArray) (σ : St) : HCalls Tryd.prog 66 [.str s, .str p] σ (fun d σ' => d = .tuple (if p.data.toList.isPrefixOf s.data.toList then [.str (s.extract p.size s.size), .bool true] else [.str s, .bool false]) ∧ σ' = σ) := by
  refine hcalls_body (fn := Tryd.f66) rfl c66 (by simp [h66]) (by simp [h66, Tryd.f66]) ?_
  intro M hP hr hnt hnx hwf hlt
  simp only [h66, argEnv]
  refine hgo_sound 60 ?_
  simp -implicitDefEqProofs (maxSteps := 1000000) only [simpS, ↓condJ_true, ↓condJ_false, ↓reduceIte, Nat.reduceEqDiff, Nat.reduceLT, Nat.reduceLeDiff, reduceCtorEq, Nat.reduceAdd, Nat.reduceSub, bindG_none, addG_none, hgrpK_none, nestK_none, hgrpK_guarded, Option.map_none, beq_self_eq_true, bne_self_eq_false, Option.map_some, if_true, if_false, List.getD_cons_zero, List.getD_cons_succ, List.length_cons, List.length_nil, List.mem_cons, List.not_mem_nil, List.mem_append, List.nil_append, List.cons_append, List.append_nil, List.take_succ_cons, List.take_zero, List.drop_succ_cons, List.drop_zero, List.set_cons_zero, List.set_cons_succ, List.map_cons, List.map_nil, implies_true, forall_const, ne_eq]
  refine hx_call (f := .fn 54) rfl (by rw [hP]; exact hcallD_func (lhasPrefix_calls s p _)) ?_
  rintro _ σ2 ⟨rfl, h⟩
  subst σ2
  cases h : p.data.toList.isPrefixOf s.data.toList
  · refine hgo_sound 60 ?_
    simp -implicitDefEqProofs (maxSteps := 1000000) only [simpS, ↓condJ_true, ↓condJ_false, ↓reduceIte, Nat.reduceEqDiff, Nat.reduceLT, Nat.reduceLeDiff, reduceCtorEq, Nat.reduceAdd, Nat.reduceSub, bindG_none, addG_none, hgrpK_none, nestK_none, hgrpK_guarded, Option.map_none, beq_self_eq_true, bne_self_eq_false, Option.map_some, if_true, if_false, List.getD_cons_zero, List.getD_cons_succ, List.length_cons, List.length_nil, List.mem_cons, List.not_mem_nil, List.mem_append, List.nil_append, List.cons_append, List.append_nil, List.take_succ_cons, List.take_zero, List.drop_succ_cons, List.drop_zero, List.set_cons_zero, List.set_cons_succ, List.map_cons, List.map_nil, implies_true, forall_const, ne_eq]
    exact fpost_pure (σ0 := σ) (.inr rfl) (by rw [hnx]; exact Nat.le_refl _) hwf (by first | exact Sub.refl σ | exact (((Ext.refl _).new _).sub hwf)) rfl trivial (by repeat' (first | trivial | apply And.intro)) ⟨rfl, rfl⟩
  · have hle := (List.isPrefixOf_iff_prefix.1 h).length_le
    rw [len_list, len_list] at hle
    have h1 : (0 : Int) ≤ (p.size : Int) ∧ (p.size : Int) ≤ (s.size : Int) := by omega
    refine hgo_sound 60 ?_
    simp -implicitDefEqProofs (maxSteps := 1000000) only [simpS, ↓condJ_true, ↓condJ_false, ↓reduceIte, Nat.reduceEqDiff, Nat.reduceLT, Nat.reduceLeDiff, reduceCtorEq, Nat.reduceAdd, Nat.reduceSub, bindG_none, addG_none, hgrpK_none, nestK_none, hgrpK_guarded, Option.map_none, beq_self_eq_true, bne_self_eq_false, Option.map_some, if_true, if_false, List.getD_cons_zero, List.getD_cons_succ, List.length_cons, List.length_nil, List.mem_cons, List.not_mem_nil, List.mem_append, List.nil_append, List.cons_append, List.append_nil, List.take_succ_cons, List.take_zero, List.drop_succ_cons, List.drop_zero, List.set_cons_zero, List.set_cons_succ, List.map_cons, List.map_nil, implies_true, forall_const, ne_eq, h1.1, h1.2, Int.toNat_natCast]
    exact fpost_pure (σ0 := σ) (.inr rfl) (by rw [hnx]; exact Nat.le_refl _) hwf (by first | exact Sub.refl σ | exact (((Ext.refl _).new _).sub hwf)) rfl trivial (by repeat' (first | trivial | apply And.intro)) ⟨rfl, rfl⟩

theorem cutPrefix_calls (s p : ByteArray) (σ : St) : HCalls Tryd.prog 57 [.str s, .str p] σ (fun d σ' => d = .tuple (if p.data.toList.isPrefixOf s.data.toList then [.str (s.extract p.size s.size), .bool true] else [.str s, .bool false]) ∧ σ' = σ) := by
  refine hcalls_body (fn := Tryd.f57) rfl c57 (by simp [h57]) (by simp [h57, Tryd.f57]) ?_
  intro M hP hr hnt hnx hwf hlt
  simp only [h57, argEnv]
  have hnt' : M.nt = 11 := hnt
  refine hgo_sound 60 ?_
  simp -implicitDefEqProofs (maxSteps := 1000000) only [simpS, ↓condJ_true, ↓condJ_false, ↓reduceIte, Nat.reduceEqDiff, Nat.reduceLT, Nat.reduceLeDiff, reduceCtorEq, Nat.reduceAdd, Nat.reduceSub, bindG_none, addG_none, hgrpK_none, nestK_none, hgrpK_guarded, Option.map_none, beq_self_eq_true, bne_self_eq_false, Option.map_some, if_true, if_false, List.getD_cons_zero, List.getD_cons_succ, List.length_cons, List.length_nil, List.mem_cons, List.not_mem_nil, List.mem_append, List.nil_append, List.cons_append, List.append_nil, List.take_succ_cons, List.take_zero, List.drop_succ_cons, List.drop_zero, List.set_cons_zero, List.set_cons_succ, List.map_cons, List.map_nil, implies_true, forall_const, ne_eq]
  refine hx_call (f := .fn 66) rfl (by rw [hP]; exact hcallD_func (lcutPrefix_calls s p _)) ?_
  rintro _ σ2 ⟨rfl, h⟩
  subst σ2
  split <;> rename_i h
  · refine hgo_sound 60 ?_
    simp -implicitDefEqProofs (maxSteps := 1000000) only [simpS, ↓condJ_true, ↓condJ_false, ↓reduceIte, Nat.reduceEqDiff, Nat.reduceLT, Nat.reduceLeDiff, reduceCtorEq, Nat.reduceAdd, Nat.reduceSub, bindG_none, addG_none, hgrpK_none, nestK_none, hgrpK_guarded, Option.map_none, beq_self_eq_true, bne_self_eq_false, Option.map_some, if_true, if_false, List.getD_cons_zero, List.getD_cons_succ, List.length_cons, List.length_nil, List.mem_cons, List.not_mem_nil, List.mem_append, List.nil_append, List.cons_append, List.append_nil, List.take_succ_cons, List.take_zero, List.drop_succ_cons, List.drop_zero, List.set_cons_zero, List.set_cons_succ, List.map_cons, List.map_nil, implies_true, forall_const, ne_eq]
    exact fpost_pure (σ0 := σ) (.inr rfl) (by rw [hnx]; exact Nat.le_refl _) hwf (by first | exact Sub.refl σ | exact (((Ext.refl _).new _).sub hwf)) rfl trivial (by repeat' (first | trivial | apply And.intro)) ⟨rfl, rfl⟩
  · refine hgo_sound 60 ?_
    simp -implicitDefEqProofs (maxSteps := 1000000) only [simpS, ↓condJ_true, ↓condJ_false, ↓reduceIte, Nat.reduceEqDiff, Nat.reduceLT, Nat.reduceLeDiff, reduceCtorEq, Nat.reduceAdd, Nat.reduceSub, bindG_none, addG_none, hgrpK_none, nestK_none, hgrpK_guarded, Option.map_none, beq_self_eq_true, bne_self_eq_false, Option.map_some, if_true, if_false, List.getD_cons_zero, List.getD_cons_succ, List.length_cons, List.length_nil, List.mem_cons, List.not_mem_nil, List.mem_append, List.nil_append, List.cons_append, List.append_nil, List.take_succ_cons, List.take_zero, List.drop_succ_cons, List.drop_zero, List.set_cons_zero, List.set_cons_succ, List.map_cons, List.map_nil, implies_true, forall_const, ne_eq]
    exact fpost_pure (σ0 := σ) (.inr rfl) (by rw [hnx]; exact Nat.le_refl _) hwf (by first | exact Sub.refl σ | exact (((Ext.refl _).new _).sub hwf)) rfl trivial (by repeat' (first | trivial | apply And.intro)) ⟨rfl, rfl⟩

end Go.Hl
