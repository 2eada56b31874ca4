/-
  Layer 6: all tokens of a text.
-/
import Derived.Test.YtijcddlahidhhaaDoorLxC
set_option linter.unusedSectionVars false
set_option linter.unusedVariables false
set_option linter.unusedSimpArgs false
set_option maxRecDepth 100000

namespace Go.Hl
open Go Go.Proofs Go.RowKit

structure Tk3 where
  k : Nat
  f : Nat
  t : Nat

abbrev encK3 (x : Tk3) : List D := [.int .i64 (x.k : Int), .int .i64 (x.f : Int), .int .i64 (x.t : Int)]
def encTk (l : List Tk3) : List (List D) := l.map encK3
theorem encTk_length (l : List Tk3) : (encTk l).length = l.length := by simp [encTk]
theorem encTk_lt (n : Nat) : ∀ l : List Tk3, ltX n (encTk l)
  | [] => trivial
  | s :: l => ⟨⟨trivial, trivial, trivial, trivial⟩, encTk_lt n l⟩
theorem encTk_snoc (l : List Tk3) (x : Tk3) : encTk l ++ [encK3 x] = encTk (l ++ [x]) := by simp [encTk]
theorem encTk_get (l : List Tk3) (j : Nat) (h : j < l.length) : (encTk l).getD j [] = encK3 l[j] := by simp [encTk, List.getD, h]

def toksF : Nat → List UInt8 → Nat → List Tk3
  | 0, _, _ => []
  | n + 1, l, a => if l = [] then [] else ⟨(lexN l).1, a, a + (lexN l).2⟩ :: toksF n (l.drop (lexN l).2) (a + (lexN l).2)
def toks (l : List UInt8) (a : Nat) : List Tk3 := toksF l.length l a

theorem toksF_eq : ∀ (n m : Nat) (l : List UInt8) (a : Nat), l.length ≤ n → l.length ≤ m → toksF n l a = toksF m l a
  | 0, m, l, a, h, _ => by
    have : l = [] := List.length_eq_zero_iff.1 (by omega)
    subst this
    cases m <;> simp [toksF]
  | n + 1, 0, l, a, _, h => by
    have : l = [] := List.length_eq_zero_iff.1 (by omega)
    subst this
    simp [toksF]
  | n + 1, m + 1, l, a, h1, h2 => by
    simp only [toksF]
    by_cases hl : l = []
    · simp [hl]
    · rw [if_neg hl, if_neg hl]
      have := lexN_len l hl
      rw [toksF_eq n m _ _ (by rw [List.length_drop]; omega) (by rw [List.length_drop]; omega)]
theorem toks_nil (a : Nat) : toks [] a = [] := rfl
theorem toks_cons (l : List UInt8) (a : Nat) (h : l ≠ []) : toks l a = ⟨(lexN l).1, a, a + (lexN l).2⟩ :: toks (l.drop (lexN l).2) (a + (lexN l).2) := by
  have h1 := lexN_len l h
  unfold toks
  obtain ⟨n, hn⟩ : ∃ n, l.length = n + 1 := ⟨l.length - 1, by omega⟩
  rw [hn]
  simp only [toksF]
  rw [if_neg h, toksF_eq n _ _ _ (by rw [List.length_drop]; omega) (Nat.le_refl _)]
theorem toks_length : ∀ (n : Nat) (l : List UInt8) (a : Nat), l.length ≤ n → (toks l a).length ≤ l.length
  | 0, l, a, h => by
    have : l = [] := List.length_eq_zero_iff.1 (by omega)
    subst this
    simp [toks_nil]
  | n + 1, l, a, h => by
    by_cases hl : l = []
    · subst hl; simp [toks_nil]
    · have h1 := lexN_len l hl
      have := toks_length n (l.drop (lexN l).2) (a + (lexN l).2) (by rw [List.length_drop]; omega)
      rw [toks_cons l a hl, List.length_cons]
      rw [List.length_drop] at this
      omega

theorem all_calls (s : ByteArray) (σ : St) : HCalls Tryd.prog 32 [.str s] σ (fun d σ' => d = .func 40 [.eptr [.str s] 0] ∧ σ' = σ) := by
  refine hcalls_body (fn := Tryd.f32) rfl c32 (by simp [h32]) (by simp [h32, Tryd.f32]) ?_
  intro M hP hr hnt hnx hwf hlt
  simp only [h32, argEnv]
  have hnt' : M.nt = 4 := hnt
  refine hgo_sound 60 ?_
  simp -implicitDefEqProofs (maxSteps := 1000000) only [simpS, ↓condJ_true, ↓condJ_false, ↓reduceIte, Nat.reduceEqDiff, Nat.reduceLT, Nat.reduceLeDiff, reduceCtorEq, Nat.reduceAdd, Nat.reduceSub, bindG_none, addG_none, hgrpK_none, nestK_none, hgrpK_guarded, Option.map_none, beq_self_eq_true, bne_self_eq_false, Option.map_some, if_true, if_false, List.getD_cons_zero, List.getD_cons_succ, List.length_cons, List.length_nil, List.mem_cons, List.not_mem_nil, List.mem_append, List.nil_append, List.cons_append, List.append_nil, List.take_succ_cons, List.take_zero, List.drop_succ_cons, List.drop_zero, List.set_cons_zero, List.set_cons_succ, List.map_cons, List.map_nil, implies_true, forall_const, ne_eq]
  refine fpost_frz [(σ.next, [.str s])] false (.inr rfl) (by omega) hwf ((Ext.refl σ).new _ |>.sub hwf) rfl trivial (by simp [St.obj_new]) (by simp [tupD, frzD, frzL, lookF, look]) ?_ ⟨rfl, rfl⟩
  simp [D.lt, ltL]

structure AlS (C : Type) where
  a : Nat
  c : C

theorem drop_size (s : ByteArray) (a : Nat) : (s.extract a s.size).size = s.size - a := by rw [ByteArray.size_extract]; omega
theorem drop_ne (s : ByteArray) (a : Nat) (h : a < s.size) : s.data.toList.drop a ≠ [] := by
  intro e
  have := List.drop_eq_nil_iff.1 e
  rw [len_list] at this
  omega

theorem all_iter (s : ByteArray) (hs : s.size ≤ 1073741824) (gl : Nat → Option (List D)) (hg : ∀ σ : St, σ.glob = gl → GM σ) :
    IterAt Tryd.prog 40 (fun y => [y, .eptr [.str s] 0]) (fun x => [D.agg (encK3 x)]) (toks s.data.toList 0) gl := by
  intro tk c y hgl hok hy
  refine hcalls_body (fn := Tryd.f40) rfl c40 (by simp [h40]) (by simp [h40, Tryd.f40]) ?_
  intro M hP hr hnt hnx hwf hlt
  simp only [h40, argEnv]
  refine hgo_sound 60 ?_
  simp -implicitDefEqProofs (maxSteps := 1000000) only [simpS, ↓condJ_true, ↓condJ_false, ↓reduceIte, Nat.reduceEqDiff, Nat.reduceLT, Nat.reduceLeDiff, reduceCtorEq, Nat.reduceAdd, Nat.reduceSub, bindG_none, addG_none, hgrpK_none, nestK_none, hgrpK_guarded, Option.map_none, beq_self_eq_true, bne_self_eq_false, Option.map_some, if_true, if_false, List.getD_cons_zero, List.getD_cons_succ, List.length_cons, List.length_nil, List.mem_cons, List.not_mem_nil, List.mem_append, List.nil_append, List.cons_append, List.append_nil, List.take_succ_cons, List.take_zero, List.drop_succ_cons, List.drop_zero, List.set_cons_zero, List.set_cons_succ, List.map_cons, List.map_nil, implies_true, forall_const, ne_eq]
  refine hx_know_code fun hw hl hn => ?_
  refine hx_loop (S := AlS tk.C) (fun t => [(0, y), (1, .eptr [.str s] 0), (3, .int .i64 t.a)]) (fun t => tk.T t.c)
    (fun t => t.a ≤ s.size ∧ tk.oks t.c (toks (s.data.toList.drop t.a) t.a) ∧ tk.run c (toks s.data.toList 0) = tk.run t.c (toks (s.data.toList.drop t.a) t.a))
    (fun t => s.size - t.a) ⟨0, c⟩ ⟨Nat.zero_le _, hok, rfl⟩ (fun _ _ h => by rw [hr] at h; cases h) ?_ ?_
  · exact Drop.all hw hn ⟨⟨rfl, hl 0⟩, ⟨rfl, hl 1⟩, ⟨rfl, trivial⟩, trivial⟩
  rintro ⟨a, c1⟩ ⟨h1, h6, h7⟩
  simp only at h1 h6 h7 ⊢
  refine hx_know_code fun hw1 hl1 hn1 => ?_
  by_cases ha : a < s.size
  · have hd : decide ((a : Int) < (s.size : Int)) = true := decide_eq_true (by omega)
    have ha2 : (0 : Int) ≤ (a : Int) ∧ (a : Int) ≤ (s.size : Int) := by omega
    have hne := drop_ne s a ha
    have hln := lexN_len _ hne
    rw [List.length_drop, len_list] at hln
    rw [toks_cons _ _ hne] at h6 h7
    have hz := drop_size s a
    have hc := next_calls (s.extract a s.size) (by omega) (by omega) (tk.T c1) (hg _ ((tk.glob c1 c).trans hgl))
    rw [ex_drop] at hc
    rw [List.drop_drop] at h6 h7
    generalize hk : lexN (s.data.toList.drop a) = kn at *
    obtain ⟨k, n⟩ := kn
    simp only at hc h6 h7 hln
    have hw3 : IntKind.i64.wrap ((a : Int) + (n : Int)) = ((a + n : Nat) : Int) := by rw [IntWalk.i64_in _ (by omega)]; rfl
    refine hgo_sound 60 ?_
    simp -implicitDefEqProofs (maxSteps := 1000000) only [simpS, ↓condJ_true, ↓condJ_false, ↓reduceIte, Nat.reduceEqDiff, Nat.reduceLT, Nat.reduceLeDiff, reduceCtorEq, Nat.reduceAdd, Nat.reduceSub, bindG_none, addG_none, hgrpK_none, nestK_none, hgrpK_guarded, Option.map_none, beq_self_eq_true, bne_self_eq_false, Option.map_some, if_true, if_false, List.getD_cons_zero, List.getD_cons_succ, List.length_cons, List.length_nil, List.mem_cons, List.not_mem_nil, List.mem_append, List.nil_append, List.cons_append, List.append_nil, List.take_succ_cons, List.take_zero, List.drop_succ_cons, List.drop_zero, List.set_cons_zero, List.set_cons_succ, List.map_cons, List.map_nil, implies_true, forall_const, ne_eq, hd, ha2.1, ha2.2, Int.toNat_natCast]
    refine hx_call (f := .fn 41) rfl (by rw [hP]; exact hcallD_func (hc)) ?_
    rintro _ σ2 ⟨rfl, h⟩
    subst σ2
    refine hgo_sound 60 ?_
    simp -implicitDefEqProofs (maxSteps := 1000000) only [simpS, ↓condJ_true, ↓condJ_false, ↓reduceIte, Nat.reduceEqDiff, Nat.reduceLT, Nat.reduceLeDiff, reduceCtorEq, Nat.reduceAdd, Nat.reduceSub, bindG_none, addG_none, hgrpK_none, nestK_none, hgrpK_guarded, Option.map_none, beq_self_eq_true, bne_self_eq_false, Option.map_some, if_true, if_false, List.getD_cons_zero, List.getD_cons_succ, List.length_cons, List.length_nil, List.mem_cons, List.not_mem_nil, List.mem_append, List.nil_append, List.cons_append, List.append_nil, List.take_succ_cons, List.take_zero, List.drop_succ_cons, List.drop_zero, List.set_cons_zero, List.set_cons_succ, List.map_cons, List.map_nil, implies_true, forall_const, ne_eq, hw3]
    refine hx_call rfl (by rw [hP]; exact hy.call c1 ⟨k, a, a + n⟩ (tk.T c1) (tk.low c1) h6.1) ?_
    rintro d σ2 ⟨rfl, rfl⟩
    rw [tk.mixT]
    refine hx_know_ops fun hw2 hl2 hn2 => ?_
    cases hb : (tk.step c1 ⟨k, a, a + n⟩).2
    · refine hgo_sound 60 ?_
      simp -implicitDefEqProofs (maxSteps := 1000000) only [simpS, ↓condJ_true, ↓condJ_false, ↓reduceIte, Nat.reduceEqDiff, Nat.reduceLT, Nat.reduceLeDiff, reduceCtorEq, Nat.reduceAdd, Nat.reduceSub, bindG_none, addG_none, hgrpK_none, nestK_none, hgrpK_guarded, Option.map_none, beq_self_eq_true, bne_self_eq_false, Option.map_some, if_true, if_false, List.getD_cons_zero, List.getD_cons_succ, List.length_cons, List.length_nil, List.mem_cons, List.not_mem_nil, List.mem_append, List.nil_append, List.cons_append, List.append_nil, List.take_succ_cons, List.take_zero, List.drop_succ_cons, List.drop_zero, List.set_cons_zero, List.set_cons_succ, List.map_cons, List.map_nil, implies_true, forall_const, ne_eq]
      rw [h7, Tk.run_false hb]
      exact fpost_pure (.inr rfl) hn2 hw2 (Sub.refl _) rfl trivial trivial rfl
    · refine hgo_sound 60 ?_
      simp -implicitDefEqProofs (maxSteps := 1000000) only [simpS, ↓condJ_true, ↓condJ_false, ↓reduceIte, Nat.reduceEqDiff, Nat.reduceLT, Nat.reduceLeDiff, reduceCtorEq, Nat.reduceAdd, Nat.reduceSub, bindG_none, addG_none, hgrpK_none, nestK_none, hgrpK_guarded, Option.map_none, beq_self_eq_true, bne_self_eq_false, Option.map_some, if_true, if_false, List.getD_cons_zero, List.getD_cons_succ, List.length_cons, List.length_nil, List.mem_cons, List.not_mem_nil, List.mem_append, List.nil_append, List.cons_append, List.append_nil, List.take_succ_cons, List.take_zero, List.drop_succ_cons, List.drop_zero, List.set_cons_zero, List.set_cons_succ, List.map_cons, List.map_nil, implies_true, forall_const, ne_eq, hw3]
      intro _ _ _
      refine ⟨⟨a + n, _⟩, ⟨by simp only; omega, h6.2 hb, by rw [h7, Tk.run_true hb]⟩, by simp only; omega, ?_⟩
      exact Drop.all hw2 hn2 ⟨⟨rfl, hl2 0⟩, ⟨rfl, hl2 1⟩, ⟨rfl, trivial⟩, trivial⟩
  · have hd : decide ((a : Int) < (s.size : Int)) = false := decide_eq_false (by omega)
    have haa : s.data.toList.drop a = [] := List.drop_eq_nil_of_le (by rw [len_list]; omega)
    rw [haa, toks_nil] at h7
    refine hgo_sound 60 ?_
    simp -implicitDefEqProofs (maxSteps := 1000000) only [simpS, ↓condJ_true, ↓condJ_false, ↓reduceIte, Nat.reduceEqDiff, Nat.reduceLT, Nat.reduceLeDiff, reduceCtorEq, Nat.reduceAdd, Nat.reduceSub, bindG_none, addG_none, hgrpK_none, nestK_none, hgrpK_guarded, Option.map_none, beq_self_eq_true, bne_self_eq_false, Option.map_some, if_true, if_false, List.getD_cons_zero, List.getD_cons_succ, List.length_cons, List.length_nil, List.mem_cons, List.not_mem_nil, List.mem_append, List.nil_append, List.cons_append, List.append_nil, List.take_succ_cons, List.take_zero, List.drop_succ_cons, List.drop_zero, List.set_cons_zero, List.set_cons_succ, List.map_cons, List.map_nil, implies_true, forall_const, ne_eq, hd]
    rw [h7]
    exact fpost_pure (.inl rfl) hn1 hw1 (Sub.refl _) rfl trivial trivial rfl

end Go.Hl
