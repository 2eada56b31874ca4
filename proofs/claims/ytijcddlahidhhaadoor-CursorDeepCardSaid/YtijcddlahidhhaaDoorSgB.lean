/-
  Layer 5: what the library answers; keywords.
-/
import Derived.Test.YtijcddlahidhhaaDoorSgA
import Derived.Test.YtijcddlahidhhaaDoorHlW
import Derived.Test.YtijcddlahidhhaaDoorShelf
set_option linter.unusedSectionVars false
set_option linter.unusedVariables false
set_option linter.unusedSimpArgs false
set_option maxRecDepth 100000
namespace Go.Hl
open Go Go.Proofs Go.RowKit

theorem indexByte_calls (s : ByteArray) (b : UInt8) (σ : St) : HCalls Tryd.prog 52 [.str s, byD b] σ (fun d σ' => d = .int .i64 (Lib.indexByte s.data.toList b) ∧ σ' = σ) := by
  refine hcalls_plain (by kernel_rfl) fun g w vs hr hl => ?_
  simp only [RL, R] at hl
  obtain ⟨u0, us, rfl, rfl, u1, us1, rfl, rfl, rfl⟩ := hl
  refine (Tryd.strings_IndexByte s (b.toNat : Int) w).mono ?_
  rintro e w' ⟨rfl, rfl⟩
  have hb : ((b.toNat : Int)).toNat.toUInt8 = b := by simp
  exact ⟨_, .int .i64 (Lib.indexByte s.data.toList b), by rw [hb], E.refl g _ hr.gw, hr, by simp only [R], rfl, rfl⟩

theorem blank_calls (b : UInt8) (σ : St) : HCalls Tryd.prog 45 [byD b] σ (fun d σ' => d = .bool (isBlk b) ∧ σ' = σ) := by
  refine hcalls_body (fn := Tryd.f45) rfl c45 (by simp [h45]) (by simp [h45, Tryd.f45]) ?_
  intro M hP hr hnt hnx hwf hlt
  simp only [h45, argEnv]
  refine hgo_sound 60 ?_
  simp -implicitDefEqProofs (maxSteps := 1000000) only [simpS, ↓condJ_true, ↓condJ_false, ↓reduceIte, Nat.reduceEqDiff, Nat.reduceLT, Nat.reduceLeDiff, reduceCtorEq, Nat.reduceAdd, Nat.reduceSub, bindG_none, addG_none, hgrpK_none, nestK_none, hgrpK_guarded, Option.map_none, beq_self_eq_true, bne_self_eq_false, Option.map_some, if_true, if_false, List.getD_cons_zero, List.getD_cons_succ, List.length_cons, List.length_nil, List.mem_cons, List.not_mem_nil, List.mem_append, List.nil_append, List.cons_append, List.append_nil, List.take_succ_cons, List.take_zero, List.drop_succ_cons, List.drop_zero, List.set_cons_zero, List.set_cons_succ, List.map_cons, List.map_nil, implies_true, forall_const, ne_eq]
  refine hx_call (f := .fn 52) rfl (by rw [hP]; exact hcallD_func (indexByte_calls _ b _)) ?_
  rintro _ σ2 ⟨rfl, h⟩
  subst σ2
  refine hgo_sound 60 ?_
  simp -implicitDefEqProofs (maxSteps := 1000000) only [simpS, ↓condJ_true, ↓condJ_false, ↓reduceIte, Nat.reduceEqDiff, Nat.reduceLT, Nat.reduceLeDiff, reduceCtorEq, Nat.reduceAdd, Nat.reduceSub, bindG_none, addG_none, hgrpK_none, nestK_none, hgrpK_guarded, Option.map_none, beq_self_eq_true, bne_self_eq_false, Option.map_some, if_true, if_false, List.getD_cons_zero, List.getD_cons_succ, List.length_cons, List.length_nil, List.mem_cons, List.not_mem_nil, List.mem_append, List.nil_append, List.cons_append, List.append_nil, List.take_succ_cons, List.take_zero, List.drop_succ_cons, List.drop_zero, List.set_cons_zero, List.set_cons_succ, List.map_cons, List.map_nil, implies_true, forall_const, ne_eq]
  refine fpost_pure (σ0 := σ) (.inr rfl) (by rw [hnx]; exact Nat.le_refl _) hwf (Sub.refl σ) rfl trivial trivial ⟨congrArg D.bool (?_ : _ = isBlk b), rfl⟩
  have key : ∀ n : Fin 256, decide (Lib.indexByte [9, 10, 13, 32] (UInt8.ofNat n.val) ≥ 0) = isBlk (UInt8.ofNat n.val) := by decide +kernel
  have := key ⟨b.toNat, b.toNat_lt⟩
  simpa using this

def kwS : List ByteArray := [⟨#[99, 108, 97, 115, 115]⟩, ⟨#[101, 120, 116, 101, 110, 100, 115]⟩, ⟨#[112, 117, 98, 108, 105, 99]⟩, ⟨#[115, 116, 97, 116, 105, 99]⟩, ⟨#[118, 111, 105, 100]⟩, ⟨#[109, 97, 105, 110]⟩, ⟨#[83, 116, 114, 105, 110, 103]⟩, ⟨#[105, 110, 116]⟩,
  ⟨#[98, 111, 111, 108, 101, 97, 110]⟩, ⟨#[114, 101, 116, 117, 114, 110]⟩, ⟨#[105, 102]⟩, ⟨#[101, 108, 115, 101]⟩, ⟨#[119, 104, 105, 108, 101]⟩, ⟨#[116, 114, 117, 101]⟩, ⟨#[102, 97, 108, 115, 101]⟩, ⟨#[116, 104, 105, 115]⟩, ⟨#[110, 101, 119]⟩, ⟨#[108, 101, 110, 103, 116, 104]⟩]

def encW (l : List ByteArray) : List (List D) := l.map fun s => [.str s]
theorem encW_lt (n : Nat) : ∀ l : List ByteArray, ltX n (encW l)
  | [] => trivial
  | s :: l => ⟨⟨trivial, trivial⟩, encW_lt n l⟩
theorem encW_length (l : List ByteArray) : (encW l).length = l.length := by simp [encW]
theorem encW_get (l : List ByteArray) (j : Nat) (h : j < l.length) : (encW l).getD j [] = [.str l[j]] := by simp [encW, List.getD, h]

def idxW (x : ByteArray) : List ByteArray → Nat → Int
  | [], _ => -1
  | y :: ys, j => if x = y then j else idxW x ys (j + 1)
def memW (x : ByteArray) : List ByteArray → Bool
  | [] => false
  | y :: ys => decide (x = y) || memW x ys
def isKw (s : ByteArray) : Bool := memW s kwS

theorem idxW_ge (x : ByteArray) : ∀ (l : List ByteArray) (j : Nat), decide (idxW x l j ≥ 0) = memW x l
  | [], j => by simp [idxW, memW]
  | y :: ys, j => by
    simp only [idxW, memW]
    split
    · rename_i h
      simp [h]
    · rename_i h
      rw [idxW_ge x ys (j + 1)]
      simp [h]

structure KwS where
  j : Nat

theorem sindex_calls (l : List ByteArray) (hl : l.length ≤ 140737488355328) (x : ByteArray) (σ : St) : HCalls Tryd.prog 76 [.slice .no 1 (encW l), .str x] σ (fun d σ' => d = .int .i64 (idxW x l 0) ∧ σ' = σ) := by
  refine hcalls_body (fn := Tryd.f76) rfl c76 (by simp [h76]) (by simp [h76, Tryd.f76]) ?_
  intro M hP hr hnt hnx hwf hlt
  simp only [h76, argEnv]
  refine hgo_sound 60 ?_
  simp -implicitDefEqProofs (maxSteps := 1000000) only [simpS, ↓condJ_true, ↓condJ_false, ↓reduceIte, Nat.reduceEqDiff, Nat.reduceLT, Nat.reduceLeDiff, reduceCtorEq, Nat.reduceAdd, Nat.reduceSub, bindG_none, addG_none, hgrpK_none, nestK_none, hgrpK_guarded, Option.map_none, beq_self_eq_true, bne_self_eq_false, Option.map_some, if_true, if_false, List.getD_cons_zero, List.getD_cons_succ, List.length_cons, List.length_nil, List.mem_cons, List.not_mem_nil, List.mem_append, List.nil_append, List.cons_append, List.append_nil, List.take_succ_cons, List.take_zero, List.drop_succ_cons, List.drop_zero, List.set_cons_zero, List.set_cons_succ, List.map_cons, List.map_nil, implies_true, forall_const, ne_eq]
  refine hx_know_code fun hw hl1 hn1 => ?_
  refine hx_loop (S := KwS) (fun t => [(0, .slice .no 1 (encW l)), (1, .str x), (7, .int .i64 ((encW l).length : Int)), (8, .int .i64 t.j)]) (fun _ => σ)
    (fun t => t.j ≤ l.length ∧ idxW x (l.drop t.j) t.j = idxW x l 0) (fun t => l.length - t.j) ⟨0⟩ ⟨Nat.zero_le _, rfl⟩ (fun _ _ h => by rw [hr] at h; cases h) ?_ ?_
  · exact Drop.all hw hn1 ⟨⟨rfl, ⟨trivial, encW_lt _ _⟩⟩, ⟨rfl, trivial⟩, ⟨rfl, trivial⟩, ⟨rfl, trivial⟩, trivial⟩
  rintro ⟨j⟩ ⟨j1, j4⟩
  simp only at j1 j4 ⊢
  have hjc : ((j : Int) < ((encW l).length : Int)) = (j < l.length) := by rw [encW_length]; simp
  by_cases hj : j < l.length
  · have hjd : decide (((j : Nat) : Int) < ((encW l).length : Int)) = true := by simp [hjc, hj]
    have hjp : ((j : Nat) : Int) < ((encW l).length : Int) := by rw [encW_length]; omega
    have hget := encW_get l j hj
    have hd : l.drop j = l[j] :: l.drop (j + 1) := List.drop_eq_getElem_cons hj
    rw [hd] at j4
    simp only [idxW] at j4
    have hwr : IntKind.i64.wrap ((j : Int) + 1) = ((j + 1 : Nat) : Int) := by rw [IntWalk.i64_in _ (by omega)]; rfl
    by_cases he : x = l[j]
    · have hed : decide (x = l[j]) = true := by simp [← he]
      rw [if_pos he] at j4
      rw [← j4]
      refine hgo_sound 60 ?_
      simp -implicitDefEqProofs (maxSteps := 1000000) only [simpS, ↓condJ_true, ↓condJ_false, ↓reduceIte, Nat.reduceEqDiff, Nat.reduceLT, Nat.reduceLeDiff, reduceCtorEq, Nat.reduceAdd, Nat.reduceSub, bindG_none, addG_none, hgrpK_none, nestK_none, hgrpK_guarded, Option.map_none, beq_self_eq_true, bne_self_eq_false, Option.map_some, if_true, if_false, List.getD_cons_zero, List.getD_cons_succ, List.length_cons, List.length_nil, List.mem_cons, List.not_mem_nil, List.mem_append, List.nil_append, List.cons_append, List.append_nil, List.take_succ_cons, List.take_zero, List.drop_succ_cons, List.drop_zero, List.set_cons_zero, List.set_cons_succ, List.map_cons, List.map_nil, implies_true, forall_const, ne_eq, hjd, hjp, Int.toNat_natCast, Int.natCast_nonneg, hget, hed]
      exact fpost_pure (σ0 := σ) (.inr rfl) (by rw [hnx]; exact Nat.le_refl _) hwf (Sub.refl σ) rfl trivial trivial ⟨rfl, rfl⟩
    · have hed : decide (x = l[j]) = false := by simp [he]
      rw [if_neg he] at j4
      refine hgo_sound 60 ?_
      simp -implicitDefEqProofs (maxSteps := 1000000) only [simpS, ↓condJ_true, ↓condJ_false, ↓reduceIte, Nat.reduceEqDiff, Nat.reduceLT, Nat.reduceLeDiff, reduceCtorEq, Nat.reduceAdd, Nat.reduceSub, bindG_none, addG_none, hgrpK_none, nestK_none, hgrpK_guarded, Option.map_none, beq_self_eq_true, bne_self_eq_false, Option.map_some, if_true, if_false, List.getD_cons_zero, List.getD_cons_succ, List.length_cons, List.length_nil, List.mem_cons, List.not_mem_nil, List.mem_append, List.nil_append, List.cons_append, List.append_nil, List.take_succ_cons, List.take_zero, List.drop_succ_cons, List.drop_zero, List.set_cons_zero, List.set_cons_succ, List.map_cons, List.map_nil, implies_true, forall_const, ne_eq, hjd, hjp, Int.toNat_natCast, Int.natCast_nonneg, hget, hed, hwr]
      intro hw2 hl2 hn2
      refine ⟨⟨j + 1⟩, ⟨by simp only; omega, j4⟩, by simp only; omega, ?_⟩
      exact Drop.all hw2 hn2 ⟨⟨rfl, ⟨trivial, encW_lt _ _⟩⟩, ⟨rfl, trivial⟩, ⟨rfl, trivial⟩, ⟨rfl, trivial⟩, trivial⟩
  · have hjd : decide (((j : Nat) : Int) < ((encW l).length : Int)) = false := by simp [hjc, hj]
    have hd : l.drop j = [] := List.drop_eq_nil_of_le (by omega)
    rw [hd] at j4
    rw [← j4]
    refine hgo_sound 60 ?_
    simp -implicitDefEqProofs (maxSteps := 1000000) only [simpS, ↓condJ_true, ↓condJ_false, ↓reduceIte, Nat.reduceEqDiff, Nat.reduceLT, Nat.reduceLeDiff, reduceCtorEq, Nat.reduceAdd, Nat.reduceSub, bindG_none, addG_none, hgrpK_none, nestK_none, hgrpK_guarded, Option.map_none, beq_self_eq_true, bne_self_eq_false, Option.map_some, if_true, if_false, List.getD_cons_zero, List.getD_cons_succ, List.length_cons, List.length_nil, List.mem_cons, List.not_mem_nil, List.mem_append, List.nil_append, List.cons_append, List.append_nil, List.take_succ_cons, List.take_zero, List.drop_succ_cons, List.drop_zero, List.set_cons_zero, List.set_cons_succ, List.map_cons, List.map_nil, implies_true, forall_const, ne_eq, hjd]
    exact fpost_pure (σ0 := σ) (.inr rfl) (by rw [hnx]; exact Nat.le_refl _) hwf (Sub.refl σ) rfl trivial trivial ⟨rfl, rfl⟩

theorem contains_calls (l : List ByteArray) (hl : l.length ≤ 140737488355328) (x : ByteArray) (σ : St) : HCalls Tryd.prog 69 [.slice .no 1 (encW l), .str x] σ (fun d σ' => d = .bool (memW x l) ∧ σ' = σ) := by
  refine hcalls_body (fn := Tryd.f69) rfl c69 (by simp [h69]) (by simp [h69, Tryd.f69]) ?_
  intro M hP hr hnt hnx hwf hlt
  simp only [h69, argEnv]
  refine hgo_sound 60 ?_
  simp -implicitDefEqProofs (maxSteps := 1000000) only [simpS, ↓condJ_true, ↓condJ_false, ↓reduceIte, Nat.reduceEqDiff, Nat.reduceLT, Nat.reduceLeDiff, reduceCtorEq, Nat.reduceAdd, Nat.reduceSub, bindG_none, addG_none, hgrpK_none, nestK_none, hgrpK_guarded, Option.map_none, beq_self_eq_true, bne_self_eq_false, Option.map_some, if_true, if_false, List.getD_cons_zero, List.getD_cons_succ, List.length_cons, List.length_nil, List.mem_cons, List.not_mem_nil, List.mem_append, List.nil_append, List.cons_append, List.append_nil, List.take_succ_cons, List.take_zero, List.drop_succ_cons, List.drop_zero, List.set_cons_zero, List.set_cons_succ, List.map_cons, List.map_nil, implies_true, forall_const, ne_eq]
  refine hx_call (f := .fn 76) rfl (by rw [hP]; exact hcallD_func (sindex_calls l hl x _)) ?_
  rintro _ σ2 ⟨rfl, h⟩
  subst σ2
  refine hgo_sound 60 ?_
  simp -implicitDefEqProofs (maxSteps := 1000000) only [simpS, ↓condJ_true, ↓condJ_false, ↓reduceIte, Nat.reduceEqDiff, Nat.reduceLT, Nat.reduceLeDiff, reduceCtorEq, Nat.reduceAdd, Nat.reduceSub, bindG_none, addG_none, hgrpK_none, nestK_none, hgrpK_guarded, Option.map_none, beq_self_eq_true, bne_self_eq_false, Option.map_some, if_true, if_false, List.getD_cons_zero, List.getD_cons_succ, List.length_cons, List.length_nil, List.mem_cons, List.not_mem_nil, List.mem_append, List.nil_append, List.cons_append, List.append_nil, List.take_succ_cons, List.take_zero, List.drop_succ_cons, List.drop_zero, List.set_cons_zero, List.set_cons_succ, List.map_cons, List.map_nil, implies_true, forall_const, ne_eq, idxW_ge]
  exact fpost_pure (σ0 := σ) (.inr rfl) (by rw [hnx]; exact Nat.le_refl _) hwf (Sub.refl σ) rfl trivial trivial ⟨rfl, rfl⟩

structure GK (σ : St) : Prop where
  words : σ.glob 0 = some (kwS.map D.str)
  e1 : ∃ t, σ.glob 2 = some [.iface t .undef]
  e2 : ∃ t, σ.glob 3 = some [.iface t .undef]
  tab : σ.glob 4 = some (Lib.pow10Tab.map fun z => .int .u64 z)
theorem GK.to {σ σ' : St} (h : GK σ) (e : σ'.glob = σ.glob) : GK σ' := ⟨by rw [e]; exact h.words, by rw [e]; exact h.e1, by rw [e]; exact h.e2, by rw [e]; exact h.tab⟩

theorem keyword_calls (s : ByteArray) (σ : St) (hg : GK σ) : HCalls Tryd.prog 61 [.str s] σ (fun d σ' => d = .bool (isKw s) ∧ σ' = σ) := by
  refine hcalls_body (fn := Tryd.f61) rfl c61 (by simp [h61]) (by simp [h61, Tryd.f61]) ?_
  intro M hP hr hnt hnx hwf hlt
  simp only [h61, argEnv]
  have hm : (kwS.map D.str).map (fun c => [c]) = encW kwS := by simp [encW]
  have hlen : (kwS.map D.str).length = 18 := rfl
  refine hgo_sound 60 ?_
  simp -implicitDefEqProofs (maxSteps := 1000000) only [simpS, ↓condJ_true, ↓condJ_false, ↓reduceIte, Nat.reduceEqDiff, Nat.reduceLT, Nat.reduceLeDiff, reduceCtorEq, Nat.reduceAdd, Nat.reduceSub, bindG_none, addG_none, hgrpK_none, nestK_none, hgrpK_guarded, Option.map_none, beq_self_eq_true, bne_self_eq_false, Option.map_some, if_true, if_false, List.getD_cons_zero, List.getD_cons_succ, List.length_cons, List.length_nil, List.mem_cons, List.not_mem_nil, List.mem_append, List.nil_append, List.cons_append, List.append_nil, List.take_succ_cons, List.take_zero, List.drop_succ_cons, List.drop_zero, List.set_cons_zero, List.set_cons_succ, List.map_cons, List.map_nil, implies_true, forall_const, ne_eq, hg.words, hm, hlen]
  refine hx_call (f := .fn 69) rfl (by rw [hP]; exact hcallD_func (contains_calls kwS (by decide) s _)) ?_
  rintro _ σ2 ⟨rfl, h⟩
  subst σ2
  refine hgo_sound 60 ?_
  simp -implicitDefEqProofs (maxSteps := 1000000) only [simpS, ↓condJ_true, ↓condJ_false, ↓reduceIte, Nat.reduceEqDiff, Nat.reduceLT, Nat.reduceLeDiff, reduceCtorEq, Nat.reduceAdd, Nat.reduceSub, bindG_none, addG_none, hgrpK_none, nestK_none, hgrpK_guarded, Option.map_none, beq_self_eq_true, bne_self_eq_false, Option.map_some, if_true, if_false, List.getD_cons_zero, List.getD_cons_succ, List.length_cons, List.length_nil, List.mem_cons, List.not_mem_nil, List.mem_append, List.nil_append, List.cons_append, List.append_nil, List.take_succ_cons, List.take_zero, List.drop_succ_cons, List.drop_zero, List.set_cons_zero, List.set_cons_succ, List.map_cons, List.map_nil, implies_true, forall_const, ne_eq]
  exact fpost_pure (σ0 := σ) (.inr rfl) (by rw [hnx]; exact Nat.le_refl _) hwf (Sub.refl σ) rfl trivial trivial ⟨rfl, rfl⟩

end Go.Hl
