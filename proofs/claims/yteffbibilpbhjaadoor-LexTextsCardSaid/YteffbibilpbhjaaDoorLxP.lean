/-
  Layer 6: the law LexTexts: tokens whose places may be anything.
-/
import Derived.Test.YteffbibilpbhjaaDoorLxI
set_option linter.unusedSectionVars false
set_option linter.unusedVariables false
set_option linter.unusedSimpArgs false
set_option maxRecDepth 100000
namespace Go.Hl
open Go Go.Proofs Go.RowKit

theorem hcalls_last {P : Program} {f : Nat} {a b b' : D} {σ : St} {Q : D → St → Prop} (hw : ∀ (g : G) (w : World) (v : Value), R g w b v → R g w b' v) (h : HCalls P f [a, b'] σ Q) : HCalls P f [a, b] σ Q := by
  intro g w vs hrel hl
  refine h g w vs hrel ?_
  simp only [RL] at hl ⊢
  obtain ⟨v, us, rfl, h1, v2, us2, rfl, h2, rfl⟩ := hl
  exact ⟨v, _, rfl, h1, v2, _, rfl, hw g w v2 h2, rfl⟩

abbrev encT3 (x : Int × Int × Int) : List D := [.int .i64 x.1, .int .i64 x.2.1, .int .i64 x.2.2]
def encTI (l : List (Int × Int × Int)) : List (List D) := l.map encT3
theorem encTI_length (l : List (Int × Int × Int)) : (encTI l).length = l.length := by simp [encTI]
theorem encTI_lt (n : Nat) : ∀ l : List (Int × Int × Int), ltX n (encTI l)
  | [] => trivial
  | s :: l => ⟨⟨trivial, trivial, trivial, trivial⟩, encTI_lt n l⟩
theorem encTI_get (l : List (Int × Int × Int)) (j : Nat) (h : j < l.length) : (encTI l).getD j [] = encT3 l[j] := by simp [encTI, List.getD, h]
theorem encTI_slt (n : Nat) (l : List (Int × Int × Int)) : (D.slice .no 3 (encTI l)).lt n := ⟨trivial, encTI_lt n l⟩

def textI (s : ByteArray) (x : Int × Int × Int) : ByteArray := if 0 ≤ x.2.1 ∧ x.2.1 ≤ x.2.2 ∧ x.2.2 ≤ (s.size : Int) then s.extract x.2.1.toNat x.2.2.toNat else ⟨#[]⟩
theorem textI_size (s : ByteArray) (x : Int × Int × Int) : (textI s x).size ≤ s.size := by
  unfold textI
  split
  · rw [ByteArray.size_extract]; omega
  · exact Nat.zero_le _

theorem ttextI_calls (s : ByteArray) (x : Int × Int × Int) (σ : St) : HCalls Tryd.prog 15 [.agg (encT3 x), .str s] σ (fun d σ' => d = .str (textI s x) ∧ σ' = σ) := by
  refine hcalls_body (fn := Tryd.f15) rfl c15 (by simp [h15]) (by simp [h15, Tryd.f15]) ?_
  intro M hP hr hnt hnx hwf hlt
  simp only [h15, argEnv]
  have hnt' : M.nt = 28 := hnt
  obtain ⟨k, f, t⟩ := x
  simp only [encT3]
  by_cases h1 : 0 ≤ f
  · have d1 : decide (f < 0) = false := decide_eq_false (by omega)
    by_cases h2 : f ≤ t
    · have d2 : decide (f > t) = false := decide_eq_false (by omega)
      by_cases h3 : t ≤ (s.size : Int)
      · have d3 : decide (t > (s.size : Int)) = false := decide_eq_false (by omega)
        have e : textI s (k, f, t) = s.extract f.toNat t.toNat := by unfold textI; rw [if_pos ⟨h1, h2, h3⟩]
        have h4 : 0 ≤ t := by omega
        have h5 : f ≤ (t.toNat : Int) := by omega
        rw [e]
        refine hgo_sound 90 ?_
        simp -implicitDefEqProofs (maxSteps := 1000000) only [simpS, ↓condJ_true, ↓condJ_false, ↓reduceIte, Nat.reduceEqDiff, Nat.reduceLT, Nat.reduceLeDiff, reduceCtorEq, Nat.reduceAdd, Nat.reduceSub, bindG_none, addG_none, hgrpK_none, nestK_none, hgrpK_guarded, Option.map_none, beq_self_eq_true, bne_self_eq_false, Option.map_some, if_true, if_false, List.getD_cons_zero, List.getD_cons_succ, List.length_cons, List.length_nil, List.mem_cons, List.not_mem_nil, List.mem_append, List.nil_append, List.cons_append, List.append_nil, List.take_succ_cons, List.take_zero, List.drop_succ_cons, List.drop_zero, List.set_cons_zero, List.set_cons_succ, List.map_cons, List.map_nil, implies_true, forall_const, ne_eq, d1, d2, d3, h1, h3, h4, h5]
        exact fpost_pure (σ0 := σ) (.inr rfl) (by rw [hnx]; exact Nat.le_refl _) hwf (by first | exact Sub.refl σ | exact (((Ext.refl _).new _).sub hwf)) rfl trivial (by repeat' (first | trivial | apply And.intro)) ⟨rfl, rfl⟩
      · have d3 : decide (t > (s.size : Int)) = true := decide_eq_true (by omega)
        have e : textI s (k, f, t) = ⟨#[]⟩ := by unfold textI; rw [if_neg (by simp only; omega)]
        rw [e]
        refine hgo_sound 90 ?_
        simp -implicitDefEqProofs (maxSteps := 1000000) only [simpS, ↓condJ_true, ↓condJ_false, ↓reduceIte, Nat.reduceEqDiff, Nat.reduceLT, Nat.reduceLeDiff, reduceCtorEq, Nat.reduceAdd, Nat.reduceSub, bindG_none, addG_none, hgrpK_none, nestK_none, hgrpK_guarded, Option.map_none, beq_self_eq_true, bne_self_eq_false, Option.map_some, if_true, if_false, List.getD_cons_zero, List.getD_cons_succ, List.length_cons, List.length_nil, List.mem_cons, List.not_mem_nil, List.mem_append, List.nil_append, List.cons_append, List.append_nil, List.take_succ_cons, List.take_zero, List.drop_succ_cons, List.drop_zero, List.set_cons_zero, List.set_cons_succ, List.map_cons, List.map_nil, implies_true, forall_const, ne_eq, d1, d2, d3]
        exact fpost_pure (σ0 := σ) (.inr rfl) (by rw [hnx]; exact Nat.le_refl _) hwf (by first | exact Sub.refl σ | exact (((Ext.refl _).new _).sub hwf)) rfl trivial (by repeat' (first | trivial | apply And.intro)) ⟨rfl, rfl⟩
    · have d2 : decide (f > t) = true := decide_eq_true (by omega)
      have e : textI s (k, f, t) = ⟨#[]⟩ := by unfold textI; rw [if_neg (by simp only; omega)]
      rw [e]
      refine hgo_sound 90 ?_
      simp -implicitDefEqProofs (maxSteps := 1000000) only [simpS, ↓condJ_true, ↓condJ_false, ↓reduceIte, Nat.reduceEqDiff, Nat.reduceLT, Nat.reduceLeDiff, reduceCtorEq, Nat.reduceAdd, Nat.reduceSub, bindG_none, addG_none, hgrpK_none, nestK_none, hgrpK_guarded, Option.map_none, beq_self_eq_true, bne_self_eq_false, Option.map_some, if_true, if_false, List.getD_cons_zero, List.getD_cons_succ, List.length_cons, List.length_nil, List.mem_cons, List.not_mem_nil, List.mem_append, List.nil_append, List.cons_append, List.append_nil, List.take_succ_cons, List.take_zero, List.drop_succ_cons, List.drop_zero, List.set_cons_zero, List.set_cons_succ, List.map_cons, List.map_nil, implies_true, forall_const, ne_eq, d1, d2]
      exact fpost_pure (σ0 := σ) (.inr rfl) (by rw [hnx]; exact Nat.le_refl _) hwf (by first | exact Sub.refl σ | exact (((Ext.refl _).new _).sub hwf)) rfl trivial (by repeat' (first | trivial | apply And.intro)) ⟨rfl, rfl⟩
  · have d1 : decide (f < 0) = true := decide_eq_true (by omega)
    have e : textI s (k, f, t) = ⟨#[]⟩ := by unfold textI; rw [if_neg (by simp only; omega)]
    rw [e]
    refine hgo_sound 90 ?_
    simp -implicitDefEqProofs (maxSteps := 1000000) only [simpS, ↓condJ_true, ↓condJ_false, ↓reduceIte, Nat.reduceEqDiff, Nat.reduceLT, Nat.reduceLeDiff, reduceCtorEq, Nat.reduceAdd, Nat.reduceSub, bindG_none, addG_none, hgrpK_none, nestK_none, hgrpK_guarded, Option.map_none, beq_self_eq_true, bne_self_eq_false, Option.map_some, if_true, if_false, List.getD_cons_zero, List.getD_cons_succ, List.length_cons, List.length_nil, List.mem_cons, List.not_mem_nil, List.mem_append, List.nil_append, List.cons_append, List.append_nil, List.take_succ_cons, List.take_zero, List.drop_succ_cons, List.drop_zero, List.set_cons_zero, List.set_cons_succ, List.map_cons, List.map_nil, implies_true, forall_const, ne_eq, d1]
    exact fpost_pure (σ0 := σ) (.inr rfl) (by rw [hnx]; exact Nat.le_refl _) hwf (by first | exact Sub.refl σ | exact (((Ext.refl _).new _).sub hwf)) rfl trivial (by repeat' (first | trivial | apply And.intro)) ⟨rfl, rfl⟩

def joinI (s : ByteArray) : List (Int × Int × Int) → ByteArray
  | [] => ⟨#[]⟩
  | x :: r => textI s x ++ joinI s r
theorem joinI_size (s : ByteArray) : ∀ l : List (Int × Int × Int), (joinI s l).size ≤ l.length * s.size
  | [] => by
    simp only [joinI, List.length_nil, Nat.zero_mul]
    exact Nat.le_refl _
  | x :: r => by
    have := joinI_size s r
    have h2 := textI_size s x
    simp only [joinI, ByteArray.size_append, List.length_cons, Nat.succ_mul]
    omega

theorem joinI_calls (s : ByteArray) (l : List (Int × Int × Int)) (hm : l.length ≤ 1048576) (hs : s.size ≤ 1048576) (σ : St) :
    HCalls Tryd.prog 20 [.str s, .slice .no 3 (encTI l)] σ (fun d σ' => d = .str (joinI s l) ∧ σ' = σ) := by
  refine hcalls_body (fn := Tryd.f20) rfl c20 (by simp [h20]) (by simp [h20, Tryd.f20]) ?_
  intro M hP hr hnt hnx hwf hlt
  simp only [h20, argEnv]
  have hstep : ∀ i (h : i < l.length), joinI s (l.take (i + 1)) = joinI s (l.take i) ++ textI s l[i] := fun i h => by
    rw [List.take_succ_eq_append_getElem h]
    generalize l.take i = a
    induction a with
    | nil => simp only [List.nil_append, joinI]; exact (ByteArray.append_empty).trans (ByteArray.empty_append).symm
    | cons x r ih => simp only [List.cons_append, joinI, ih, ByteArray.append_assoc]
  refine hgo_sound 8 ?_
  simp -implicitDefEqProofs (maxSteps := 1000000) only [simpS, ↓condJ_true, ↓condJ_false, ↓reduceIte, Nat.reduceEqDiff, Nat.reduceLT, Nat.reduceLeDiff, reduceCtorEq, Nat.reduceAdd, Nat.reduceSub, bindG_none, addG_none, hgrpK_none, nestK_none, hgrpK_guarded, Option.map_none, beq_self_eq_true, bne_self_eq_false, Option.map_some, if_true, if_false, List.getD_cons_zero, List.getD_cons_succ, List.length_cons, List.length_nil, List.mem_cons, List.not_mem_nil, List.mem_append, List.nil_append, List.cons_append, List.append_nil, List.take_succ_cons, List.take_zero, List.drop_succ_cons, List.drop_zero, List.set_cons_zero, List.set_cons_succ, List.map_cons, List.map_nil, implies_true, forall_const, ne_eq]
  refine hx_full_box (id := σ.next) (j := 1) (cs := [.nilp, .slice .nil 0 []]) (ot := some 64) 5 1 (by simp -implicitDefEqProofs (maxSteps := 1000000) only [simpS, ↓condJ_true, ↓condJ_false, ↓reduceIte, Nat.reduceEqDiff, Nat.reduceLT, Nat.reduceLeDiff, reduceCtorEq, Nat.reduceAdd, Nat.reduceSub, bindG_none, addG_none, hgrpK_none, nestK_none, hgrpK_guarded, Option.map_none, beq_self_eq_true, bne_self_eq_false, Option.map_some, if_true, if_false, List.getD_cons_zero, List.getD_cons_succ, List.length_cons, List.length_nil, List.mem_cons, List.not_mem_nil, List.mem_append, List.nil_append, List.cons_append, List.append_nil, List.take_succ_cons, List.take_zero, List.drop_succ_cons, List.drop_zero, List.set_cons_zero, List.set_cons_succ, List.map_cons, List.map_nil, implies_true, forall_const, ne_eq]) rfl ?_ (fun _ e => by cases e) (fun _ e => by cases e)
  refine hgo_sound 60 ?_
  simp -implicitDefEqProofs (maxSteps := 1000000) only [simpS, ↓condJ_true, ↓condJ_false, ↓reduceIte, Nat.reduceEqDiff, Nat.reduceLT, Nat.reduceLeDiff, reduceCtorEq, Nat.reduceAdd, Nat.reduceSub, bindG_none, addG_none, hgrpK_none, nestK_none, hgrpK_guarded, Option.map_none, beq_self_eq_true, bne_self_eq_false, Option.map_some, if_true, if_false, List.getD_cons_zero, List.getD_cons_succ, List.length_cons, List.length_nil, List.mem_cons, List.not_mem_nil, List.mem_append, List.nil_append, List.cons_append, List.append_nil, List.take_succ_cons, List.take_zero, List.drop_succ_cons, List.drop_zero, List.set_cons_zero, List.set_cons_succ, List.map_cons, List.map_nil, implies_true, forall_const, ne_eq, encTI_length]
  refine hx_know_code fun hw hl1 hn => ?_
  have h0 : (σ.new (.bx (some 64) [.nilp, .slice (.tok (σ.next + 1)) 1 []])).new (.tok 5 0) = jnS σ ⟨0, ⟨#[]⟩⟩ := rfl
  rw [h0] at hw hl1 hn ⊢
  refine hx_loop (S := JnS) (fun t => [(0, .str s), (5, .ptr σ.next 0), (8, .slice .no 3 (encTI l)), (9, .int .i64 (l.length : Int)), (10, .int .i64 (t.i : Int))]) (fun t => jnS σ t)
    (fun t => t.i ≤ l.length ∧ t.c = joinI s (l.take t.i)) (fun t => l.length - t.i) ⟨0, ⟨#[]⟩⟩
    ⟨Nat.zero_le _, rfl⟩ (fun _ _ h => by rw [hr] at h; cases h) ?_ ?_
  · exact Drop.all hw hn ⟨⟨rfl, trivial⟩, ⟨rfl, hl1 5⟩, ⟨rfl, encTI_slt _ _⟩, ⟨rfl, trivial⟩, ⟨rfl, trivial⟩, trivial⟩
  rintro ⟨i, c⟩ ⟨i1, hc⟩
  simp only at i1 hc ⊢
  subst hc
  have hcs : (joinI s (l.take i)).size ≤ 1099511627776 := by
    have h1 := joinI_size s (l.take i)
    have h2 : (l.take i).length ≤ 1048576 := by rw [List.length_take]; omega
    have h3 : (l.take i).length * s.size ≤ 1048576 * 1048576 := Nat.mul_le_mul h2 hs
    omega
  by_cases hi : i < l.length
  · have hd : decide ((i : Int) < (l.length : Int)) = true := decide_eq_true (by omega)
    have hi' : (i : Int) < (l.length : Int) := by omega
    have hg := encTI_get l i hi
    have hwi : IntKind.i64.wrap ((i : Int) + 1) = ((i + 1 : Nat) : Int) := by rw [IntWalk.i64_in _ (by omega)]; rfl
    have hts := textI_size s l[i]
    refine hgo_sound 60 ?_
    simp -implicitDefEqProofs (maxSteps := 1000000) only [simpS, ↓condJ_true, ↓condJ_false, ↓reduceIte, Nat.reduceEqDiff, Nat.reduceLT, Nat.reduceLeDiff, reduceCtorEq, Nat.reduceAdd, Nat.reduceSub, bindG_none, addG_none, hgrpK_none, nestK_none, hgrpK_guarded, Option.map_none, beq_self_eq_true, bne_self_eq_false, Option.map_some, if_true, if_false, List.getD_cons_zero, List.getD_cons_succ, List.length_cons, List.length_nil, List.mem_cons, List.not_mem_nil, List.mem_append, List.nil_append, List.cons_append, List.append_nil, List.take_succ_cons, List.take_zero, List.drop_succ_cons, List.drop_zero, List.set_cons_zero, List.set_cons_succ, List.map_cons, List.map_nil, implies_true, forall_const, ne_eq, hd, hi', hi, hg, jnS_next, encTI_length, Int.toNat_natCast, Int.natCast_nonneg]
    refine hx_call (f := .fn 15) rfl (by rw [hP]; exact hcallD_func (ttextI_calls s l[i] _)) ?_
    rintro _ σ2 ⟨rfl, h⟩
    subst σ2
    refine hgo_sound 60 ?_
    simp -implicitDefEqProofs (maxSteps := 1000000) only [simpS, ↓condJ_true, ↓condJ_false, ↓reduceIte, Nat.reduceEqDiff, Nat.reduceLT, Nat.reduceLeDiff, reduceCtorEq, Nat.reduceAdd, Nat.reduceSub, bindG_none, addG_none, hgrpK_none, nestK_none, hgrpK_guarded, Option.map_none, beq_self_eq_true, bne_self_eq_false, Option.map_some, if_true, if_false, List.getD_cons_zero, List.getD_cons_succ, List.length_cons, List.length_nil, List.mem_cons, List.not_mem_nil, List.mem_append, List.nil_append, List.cons_append, List.append_nil, List.take_succ_cons, List.take_zero, List.drop_succ_cons, List.drop_zero, List.set_cons_zero, List.set_cons_succ, List.map_cons, List.map_nil, implies_true, forall_const, ne_eq]
    refine hx_call (f := .fn 30) rfl (by rw [hP]; exact hcallD_func (writeString_calls σ.next (σ.next + 1) (joinI s (l.take i)).size (addrB σ.next (decide (0 < i))) (joinI s (l.take i)) (textI s l[i]) (by cases decide (0 < i) <;> simp [addrB]) _ (by simp [jnS, St.obj_new, St.next_new, show ¬ σ.next = σ.next + 1 + 1 by omega]) (by omega) (by simp [jnS, St.obj_new, St.next_new]) rfl (by omega))) ?_
    rintro d σ2 rfl
    refine hgo_sound 60 ?_
    simp -implicitDefEqProofs (maxSteps := 1000000) only [simpS, ↓condJ_true, ↓condJ_false, ↓reduceIte, Nat.reduceEqDiff, Nat.reduceLT, Nat.reduceLeDiff, reduceCtorEq, Nat.reduceAdd, Nat.reduceSub, bindG_none, addG_none, hgrpK_none, nestK_none, hgrpK_guarded, Option.map_none, beq_self_eq_true, bne_self_eq_false, Option.map_some, if_true, if_false, List.getD_cons_zero, List.getD_cons_succ, List.length_cons, List.length_nil, List.mem_cons, List.not_mem_nil, List.mem_append, List.nil_append, List.cons_append, List.append_nil, List.take_succ_cons, List.take_zero, List.drop_succ_cons, List.drop_zero, List.set_cons_zero, List.set_cons_succ, List.map_cons, List.map_nil, implies_true, forall_const, ne_eq, hwi, jnS_next]
    intro hw5 hl5 hn5
    refine ⟨⟨i + 1, joinI s (l.take (i + 1))⟩, ⟨by simp only; omega, rfl⟩, by simp only; omega, ?_⟩
    refine Drop.allS ⟨by simp only [jnS_next, St.next_put, St.next_new]; omega, fun id o ho => ?_, rfl⟩ (jnS_wf hwf _) (by rw [hnx, jnS_next]; omega) ⟨⟨rfl, trivial⟩, ⟨rfl, by simp only [D.lt, jnS_next]; omega⟩, ⟨rfl, encTI_slt _ _⟩, ⟨rfl, trivial⟩, ⟨rfl, trivial⟩, trivial⟩
    have hlt2 := ((jnS_wf hwf _).obj id o ho).1
    rw [jnS_next] at hlt2
    simp only [jnS, St.obj_put, St.obj_new, St.next_new, St.next_put, hstep i hi, ByteArray.size_append] at ho ⊢
    have hp0 : decide (0 < i + 1) = true := by simp
    by_cases q1 : id = σ.next + 1
    · subst q1; simpa [addrB] using ho
    · by_cases q2 : id = σ.next
      · subst q2
        have q3 : ¬ σ.next = σ.next + 1 + 1 := by omega
        simpa [addrB, hp0, q3] using ho
      · have q3 : ¬ id = σ.next + 1 + 1 := by omega
        simpa [q1, q2, q3] using ho
  · have hd : decide ((i : Int) < (l.length : Int)) = false := decide_eq_false (by omega)
    have hta : l.take i = l := List.take_of_length_le (by omega)
    rw [hta] at hcs ⊢
    refine hgo_sound 60 ?_
    simp -implicitDefEqProofs (maxSteps := 1000000) only [simpS, ↓condJ_true, ↓condJ_false, ↓reduceIte, Nat.reduceEqDiff, Nat.reduceLT, Nat.reduceLeDiff, reduceCtorEq, Nat.reduceAdd, Nat.reduceSub, bindG_none, addG_none, hgrpK_none, nestK_none, hgrpK_guarded, Option.map_none, beq_self_eq_true, bne_self_eq_false, Option.map_some, if_true, if_false, List.getD_cons_zero, List.getD_cons_succ, List.length_cons, List.length_nil, List.mem_cons, List.not_mem_nil, List.mem_append, List.nil_append, List.cons_append, List.append_nil, List.take_succ_cons, List.take_zero, List.drop_succ_cons, List.drop_zero, List.set_cons_zero, List.set_cons_succ, List.map_cons, List.map_nil, implies_true, forall_const, ne_eq, hd]
    refine hx_call (f := .fn 31) rfl (by rw [hP]; exact hcallD_func (bstring_calls σ.next (σ.next + 1) (joinI s l).size (addrB σ.next (decide (0 < i))) (joinI s l) _ (by simp [jnS, St.obj_new, St.next_new]) (by simp [jnS, St.obj_new, St.next_new]) rfl (by omega))) ?_
    rintro _ σ2 ⟨rfl, h⟩
    subst σ2
    refine hgo_sound 60 ?_
    simp -implicitDefEqProofs (maxSteps := 1000000) only [simpS, ↓condJ_true, ↓condJ_false, ↓reduceIte, Nat.reduceEqDiff, Nat.reduceLT, Nat.reduceLeDiff, reduceCtorEq, Nat.reduceAdd, Nat.reduceSub, bindG_none, addG_none, hgrpK_none, nestK_none, hgrpK_guarded, Option.map_none, beq_self_eq_true, bne_self_eq_false, Option.map_some, if_true, if_false, List.getD_cons_zero, List.getD_cons_succ, List.length_cons, List.length_nil, List.mem_cons, List.not_mem_nil, List.mem_append, List.nil_append, List.cons_append, List.append_nil, List.take_succ_cons, List.take_zero, List.drop_succ_cons, List.drop_zero, List.set_cons_zero, List.set_cons_succ, List.map_cons, List.map_nil, implies_true, forall_const, ne_eq]
    exact fpost_pure (σ0 := σ) (.inr rfl) (by rw [hnx]; exact Nat.le_refl _) hwf ((((Ext.refl _).new _).new _).sub hwf) rfl trivial trivial ⟨rfl, rfl⟩

def wantI (s : ByteArray) (x y : Int × Int × Int) (i : Nat) : List D := [.str (if 0 < i then textI s x else ⟨#[]⟩), .str (if 1 < i then textI s y else ⟨#[]⟩)]
def twS (σ : St) (s : ByteArray) (x y : Int × Int × Int) (i : Nat) : St := ((σ.new (.box (encT3 x))).new (.box (encT3 y))).new (.box (wantI s x y i))
theorem twS_next (σ : St) (s : ByteArray) (x y : Int × Int × Int) (i : Nat) : (twS σ s x y i).next = σ.next + 3 := rfl
theorem twS_wf {σ : St} (hwf : σ.wf) (s : ByteArray) (x y : Int × Int × Int) (i : Nat) : (twS σ s x y i).wf :=
  ((hwf.box (cs := encT3 x) ⟨trivial, trivial, trivial, trivial⟩).box (cs := encT3 y) ⟨trivial, trivial, trivial, trivial⟩).box (cs := wantI s x y i) ⟨trivial, trivial, trivial⟩
def ix3 : Nat → Int
  | 0 => 0
  | 1 => 1
  | _ => 2

set_option maxHeartbeats 4000000 in
theorem lexTexts_calls (s : ByteArray) (x y : Int × Int × Int) (σ : St) (hg : GM σ) : HCalls Tryd.prog 6 [.str s, .agg (encT3 x), .agg (encT3 y)] σ (fun d σ' => d = .bool true ∧ σ' = σ) := by
  refine hcalls_body (fn := Tryd.f6) rfl c6 (by simp [h6]) (by simp [h6, Tryd.f6]) ?_
  intro M hP hr hnt hnx hwf hlt
  simp only [h6, argEnv]
  have hnt' : M.nt = 73 := hnt
  refine hgo_sound 60 ?_
  simp -implicitDefEqProofs (maxSteps := 1000000) only [simpS, ↓condJ_true, ↓condJ_false, ↓reduceIte, Nat.reduceEqDiff, Nat.reduceLT, Nat.reduceLeDiff, reduceCtorEq, Nat.reduceAdd, Nat.reduceSub, bindG_none, addG_none, hgrpK_none, nestK_none, hgrpK_guarded, Option.map_none, beq_self_eq_true, bne_self_eq_false, Option.map_some, if_true, if_false, List.getD_cons_zero, List.getD_cons_succ, List.length_cons, List.length_nil, List.mem_cons, List.not_mem_nil, List.mem_append, List.nil_append, List.cons_append, List.append_nil, List.take_succ_cons, List.take_zero, List.drop_succ_cons, List.drop_zero, List.set_cons_zero, List.set_cons_succ, List.map_cons, List.map_nil, implies_true, forall_const, ne_eq]
  refine hx_call (f := .fn 8) rfl (by rw [hP]; exact hcallD_func (alive_calls _ (hg.to rfl))) ?_
  rintro _ σ2 ⟨rfl, h⟩
  subst σ2
  by_cases h4 : s.size ≤ 4000
  · have d4 : decide ((s.size : Int) > 4000) = false := decide_eq_false (by omega)
    refine hgo_sound 60 ?_
    simp -implicitDefEqProofs (maxSteps := 1000000) only [simpS, ↓condJ_true, ↓condJ_false, ↓reduceIte, Nat.reduceEqDiff, Nat.reduceLT, Nat.reduceLeDiff, reduceCtorEq, Nat.reduceAdd, Nat.reduceSub, bindG_none, addG_none, hgrpK_none, nestK_none, hgrpK_guarded, Option.map_none, beq_self_eq_true, bne_self_eq_false, Option.map_some, if_true, if_false, List.getD_cons_zero, List.getD_cons_succ, List.length_cons, List.length_nil, List.mem_cons, List.not_mem_nil, List.mem_append, List.nil_append, List.cons_append, List.append_nil, List.take_succ_cons, List.take_zero, List.drop_succ_cons, List.drop_zero, List.set_cons_zero, List.set_cons_succ, List.map_cons, List.map_nil, implies_true, forall_const, ne_eq, d4]
    refine hx_know_code fun hw hl1 hn => ?_
    have h0 : ((σ.new (Ob.box (encT3 x))).new (Ob.box (encT3 y))).new (Ob.bx none [D.str ⟨#[]⟩, D.str ⟨#[]⟩]) = twS σ s x y 0 := rfl
    rw [h0] at hw hl1 hn ⊢
    refine hx_loop (S := Nat) (fun i => [(0, .str s), (4, .ptr σ.next 0), (5, .ptr (σ.next + 1) 0), (7, .ptr (σ.next + 2) 0), (18, .agg (encT3 x ++ encT3 y)), (19, .int .i64 (ix3 i))]) (fun i => twS σ s x y i)
      (fun i => i ≤ 2) (fun i => 2 - i) 0 (Nat.zero_le _) (fun _ _ h => by rw [hr] at h; cases h) ?_ ?_
    · exact Drop.all hw hn ⟨⟨rfl, trivial⟩, ⟨rfl, hl1 4⟩, ⟨rfl, hl1 5⟩, ⟨rfl, hl1 7⟩, ⟨rfl, hl1 18⟩, ⟨rfl, trivial⟩, trivial⟩
    intro i hi
    have hi3 : i = 0 ∨ i = 1 ∨ i = 2 := by omega
    have l02 : decide ((0 : Int) < 2) = true := rfl
    have l12 : decide ((1 : Int) < 2) = true := rfl
    have l22 : decide ((2 : Int) < 2) = false := rfl
    have m0 : Int.toNat 0 * 3 = 0 := rfl
    have m1 : Int.toNat 1 * 3 = 3 := rfl
    have m2 : Int.toNat 0 * 1 = 0 := rfl
    have m3 : Int.toNat 1 * 1 = 1 := rfl
    have c0 : (0 : Int) ≤ 0 := by decide
    have c1 : (0 : Int) ≤ 1 := by decide
    have c2 : (0 : Int) < ((2 : Nat) : Int) := by decide
    have c3 : (1 : Int) < ((2 : Nat) : Int) := by decide
    have w0 : IntKind.i64.wrap (0 + 1) = 1 := rfl
    have w1 : IntKind.i64.wrap (1 + 1) = 2 := rfl
    rcases hi3 with rfl | rfl | rfl
    · obtain ⟨ka, fa, ta⟩ := x
      simp only [ix3]
      by_cases h1 : 0 ≤ fa
      · have d1 : decide (fa ≥ 0) = true := decide_eq_true h1
        by_cases h2 : fa ≤ ta
        · have d2 : decide (fa ≤ ta) = true := decide_eq_true h2
          by_cases h3 : ta ≤ (s.size : Int)
          · have d3 : decide (ta ≤ (s.size : Int)) = true := decide_eq_true h3
            have e : textI s (ka, fa, ta) = s.extract fa.toNat ta.toNat := by unfold textI; rw [if_pos ⟨h1, h2, h3⟩]
            have h5 : 0 ≤ ta := by omega
            have h6 : fa ≤ (ta.toNat : Int) := by omega
            refine hgo_sound 90 ?_
            simp -implicitDefEqProofs (maxSteps := 1000000) only [simpS, ↓condJ_true, ↓condJ_false, ↓reduceIte, Nat.reduceEqDiff, Nat.reduceLT, Nat.reduceLeDiff, reduceCtorEq, Nat.reduceAdd, Nat.reduceSub, bindG_none, addG_none, hgrpK_none, nestK_none, hgrpK_guarded, Option.map_none, beq_self_eq_true, bne_self_eq_false, Option.map_some, if_true, if_false, List.getD_cons_zero, List.getD_cons_succ, List.length_cons, List.length_nil, List.mem_cons, List.not_mem_nil, List.mem_append, List.nil_append, List.cons_append, List.append_nil, List.take_succ_cons, List.take_zero, List.drop_succ_cons, List.drop_zero, List.set_cons_zero, List.set_cons_succ, List.map_cons, List.map_nil, implies_true, forall_const, ne_eq, d1, d2, d3, h1, h3, h5, h6, m0, m2, c0, c2, w0, l02, textI_size, twS, wantI, ix3, encT3, Nat.lt_irrefl]
            intro hw5 hl5 hn5
            refine ⟨1, by omega, by omega, ?_⟩
            refine Drop.allS ⟨by simp only [twS_next, St.next_put, St.next_new]; omega, fun id o ho => ?_, rfl⟩ (twS_wf hwf _ _ _ _) (by rw [hnx]; simp only [twS_next, St.next_new]; omega) ⟨⟨rfl, trivial⟩, ⟨rfl, by simp only [D.lt, twS_next, St.next_new]; omega⟩, ⟨rfl, by simp only [D.lt, twS_next, St.next_new]; omega⟩, ⟨rfl, by simp only [D.lt, twS_next, St.next_new]; omega⟩, ⟨rfl, trivial, trivial, trivial, trivial, trivial, trivial, trivial⟩, ⟨rfl, trivial⟩, trivial⟩
            have hlt2 := ((twS_wf hwf _ _ _ _).obj id o ho).1
            rw [twS_next] at hlt2
            have q3 : ¬ id = σ.next + 3 := by omega
            have q4 : ¬ id = σ.next + 2 + 1 := by omega
            simp only [twS, wantI, e, St.obj_put, St.obj_new, St.next_new, St.next_put, q3, q4, if_false] at ho ⊢
            have q5 : ¬ id = σ.next + 1 + 1 + 1 := by omega
            simp [q5] at ho ⊢
            exact ho
          · have d3 : decide (ta ≤ (s.size : Int)) = false := decide_eq_false (by omega)
            have e : textI s (ka, fa, ta) = ⟨#[]⟩ := by unfold textI; rw [if_neg (by simp only; omega)]
            refine hgo_sound 90 ?_
            simp -implicitDefEqProofs (maxSteps := 1000000) only [simpS, ↓condJ_true, ↓condJ_false, ↓reduceIte, Nat.reduceEqDiff, Nat.reduceLT, Nat.reduceLeDiff, reduceCtorEq, Nat.reduceAdd, Nat.reduceSub, bindG_none, addG_none, hgrpK_none, nestK_none, hgrpK_guarded, Option.map_none, beq_self_eq_true, bne_self_eq_false, Option.map_some, if_true, if_false, List.getD_cons_zero, List.getD_cons_succ, List.length_cons, List.length_nil, List.mem_cons, List.not_mem_nil, List.mem_append, List.nil_append, List.cons_append, List.append_nil, List.take_succ_cons, List.take_zero, List.drop_succ_cons, List.drop_zero, List.set_cons_zero, List.set_cons_succ, List.map_cons, List.map_nil, implies_true, forall_const, ne_eq, d1, d2, d3, m0, m2, c0, c2, w0, l02, textI_size, twS, wantI, ix3, encT3, Nat.lt_irrefl]
            intro hw5 hl5 hn5
            refine ⟨1, by omega, by omega, ?_⟩
            refine Drop.allS ⟨by simp only [twS_next, St.next_put, St.next_new]; omega, fun id o ho => ?_, rfl⟩ (twS_wf hwf _ _ _ _) (by rw [hnx]; simp only [twS_next, St.next_new]; omega) ⟨⟨rfl, trivial⟩, ⟨rfl, by simp only [D.lt, twS_next, St.next_new]; omega⟩, ⟨rfl, by simp only [D.lt, twS_next, St.next_new]; omega⟩, ⟨rfl, by simp only [D.lt, twS_next, St.next_new]; omega⟩, ⟨rfl, trivial, trivial, trivial, trivial, trivial, trivial, trivial⟩, ⟨rfl, trivial⟩, trivial⟩
            have hlt2 := ((twS_wf hwf _ _ _ _).obj id o ho).1
            rw [twS_next] at hlt2
            have q3 : ¬ id = σ.next + 3 := by omega
            have q4 : ¬ id = σ.next + 2 + 1 := by omega
            simp only [twS, wantI, e, St.obj_put, St.obj_new, St.next_new, St.next_put, q3, q4, if_false] at ho ⊢
            have q5 : ¬ id = σ.next + 1 + 1 + 1 := by omega
            simp [q5] at ho ⊢
            exact ho
        · have d2 : decide (fa ≤ ta) = false := decide_eq_false (by omega)
          have e : textI s (ka, fa, ta) = ⟨#[]⟩ := by unfold textI; rw [if_neg (by simp only; omega)]
          refine hgo_sound 90 ?_
          simp -implicitDefEqProofs (maxSteps := 1000000) only [simpS, ↓condJ_true, ↓condJ_false, ↓reduceIte, Nat.reduceEqDiff, Nat.reduceLT, Nat.reduceLeDiff, reduceCtorEq, Nat.reduceAdd, Nat.reduceSub, bindG_none, addG_none, hgrpK_none, nestK_none, hgrpK_guarded, Option.map_none, beq_self_eq_true, bne_self_eq_false, Option.map_some, if_true, if_false, List.getD_cons_zero, List.getD_cons_succ, List.length_cons, List.length_nil, List.mem_cons, List.not_mem_nil, List.mem_append, List.nil_append, List.cons_append, List.append_nil, List.take_succ_cons, List.take_zero, List.drop_succ_cons, List.drop_zero, List.set_cons_zero, List.set_cons_succ, List.map_cons, List.map_nil, implies_true, forall_const, ne_eq, d1, d2, m0, m2, c0, c2, w0, l02, textI_size, twS, wantI, ix3, encT3, Nat.lt_irrefl]
          intro hw5 hl5 hn5
          refine ⟨1, by omega, by omega, ?_⟩
          refine Drop.allS ⟨by simp only [twS_next, St.next_put, St.next_new]; omega, fun id o ho => ?_, rfl⟩ (twS_wf hwf _ _ _ _) (by rw [hnx]; simp only [twS_next, St.next_new]; omega) ⟨⟨rfl, trivial⟩, ⟨rfl, by simp only [D.lt, twS_next, St.next_new]; omega⟩, ⟨rfl, by simp only [D.lt, twS_next, St.next_new]; omega⟩, ⟨rfl, by simp only [D.lt, twS_next, St.next_new]; omega⟩, ⟨rfl, trivial, trivial, trivial, trivial, trivial, trivial, trivial⟩, ⟨rfl, trivial⟩, trivial⟩
          have hlt2 := ((twS_wf hwf _ _ _ _).obj id o ho).1
          rw [twS_next] at hlt2
          have q3 : ¬ id = σ.next + 3 := by omega
          have q4 : ¬ id = σ.next + 2 + 1 := by omega
          simp only [twS, wantI, e, St.obj_put, St.obj_new, St.next_new, St.next_put, q3, q4, if_false] at ho ⊢
          have q5 : ¬ id = σ.next + 1 + 1 + 1 := by omega
          simp [q5] at ho ⊢
          exact ho
      · have d1 : decide (fa ≥ 0) = false := decide_eq_false (by omega)
        have e : textI s (ka, fa, ta) = ⟨#[]⟩ := by unfold textI; rw [if_neg (by simp only; omega)]
        refine hgo_sound 90 ?_
        simp -implicitDefEqProofs (maxSteps := 1000000) only [simpS, ↓condJ_true, ↓condJ_false, ↓reduceIte, Nat.reduceEqDiff, Nat.reduceLT, Nat.reduceLeDiff, reduceCtorEq, Nat.reduceAdd, Nat.reduceSub, bindG_none, addG_none, hgrpK_none, nestK_none, hgrpK_guarded, Option.map_none, beq_self_eq_true, bne_self_eq_false, Option.map_some, if_true, if_false, List.getD_cons_zero, List.getD_cons_succ, List.length_cons, List.length_nil, List.mem_cons, List.not_mem_nil, List.mem_append, List.nil_append, List.cons_append, List.append_nil, List.take_succ_cons, List.take_zero, List.drop_succ_cons, List.drop_zero, List.set_cons_zero, List.set_cons_succ, List.map_cons, List.map_nil, implies_true, forall_const, ne_eq, d1, m0, m2, c0, c2, w0, l02, textI_size, twS, wantI, ix3, encT3, Nat.lt_irrefl]
        intro hw5 hl5 hn5
        refine ⟨1, by omega, by omega, ?_⟩
        refine Drop.allS ⟨by simp only [twS_next, St.next_put, St.next_new]; omega, fun id o ho => ?_, rfl⟩ (twS_wf hwf _ _ _ _) (by rw [hnx]; simp only [twS_next, St.next_new]; omega) ⟨⟨rfl, trivial⟩, ⟨rfl, by simp only [D.lt, twS_next, St.next_new]; omega⟩, ⟨rfl, by simp only [D.lt, twS_next, St.next_new]; omega⟩, ⟨rfl, by simp only [D.lt, twS_next, St.next_new]; omega⟩, ⟨rfl, trivial, trivial, trivial, trivial, trivial, trivial, trivial⟩, ⟨rfl, trivial⟩, trivial⟩
        have hlt2 := ((twS_wf hwf _ _ _ _).obj id o ho).1
        rw [twS_next] at hlt2
        have q3 : ¬ id = σ.next + 3 := by omega
        have q4 : ¬ id = σ.next + 2 + 1 := by omega
        simp only [twS, wantI, e, St.obj_put, St.obj_new, St.next_new, St.next_put, q3, q4, if_false] at ho ⊢
        have q5 : ¬ id = σ.next + 1 + 1 + 1 := by omega
        simp [q5] at ho ⊢
        exact ho
    · obtain ⟨ka, fa, ta⟩ := y
      simp only [ix3]
      by_cases h1 : 0 ≤ fa
      · have d1 : decide (fa ≥ 0) = true := decide_eq_true h1
        by_cases h2 : fa ≤ ta
        · have d2 : decide (fa ≤ ta) = true := decide_eq_true h2
          by_cases h3 : ta ≤ (s.size : Int)
          · have d3 : decide (ta ≤ (s.size : Int)) = true := decide_eq_true h3
            have e : textI s (ka, fa, ta) = s.extract fa.toNat ta.toNat := by unfold textI; rw [if_pos ⟨h1, h2, h3⟩]
            have h5 : 0 ≤ ta := by omega
            have h6 : fa ≤ (ta.toNat : Int) := by omega
            refine hgo_sound 90 ?_
            simp -implicitDefEqProofs (maxSteps := 1000000) only [simpS, ↓condJ_true, ↓condJ_false, ↓reduceIte, Nat.reduceEqDiff, Nat.reduceLT, Nat.reduceLeDiff, reduceCtorEq, Nat.reduceAdd, Nat.reduceSub, bindG_none, addG_none, hgrpK_none, nestK_none, hgrpK_guarded, Option.map_none, beq_self_eq_true, bne_self_eq_false, Option.map_some, if_true, if_false, List.getD_cons_zero, List.getD_cons_succ, List.length_cons, List.length_nil, List.mem_cons, List.not_mem_nil, List.mem_append, List.nil_append, List.cons_append, List.append_nil, List.take_succ_cons, List.take_zero, List.drop_succ_cons, List.drop_zero, List.set_cons_zero, List.set_cons_succ, List.map_cons, List.map_nil, implies_true, forall_const, ne_eq, d1, d2, d3, h1, h3, h5, h6, m1, m3, c1, c3, w1, l12, textI_size, twS, wantI, ix3, encT3, Nat.lt_irrefl]
            intro hw5 hl5 hn5
            refine ⟨2, by omega, by omega, ?_⟩
            refine Drop.allS ⟨by simp only [twS_next, St.next_put, St.next_new]; omega, fun id o ho => ?_, rfl⟩ (twS_wf hwf _ _ _ _) (by rw [hnx]; simp only [twS_next, St.next_new]; omega) ⟨⟨rfl, trivial⟩, ⟨rfl, by simp only [D.lt, twS_next, St.next_new]; omega⟩, ⟨rfl, by simp only [D.lt, twS_next, St.next_new]; omega⟩, ⟨rfl, by simp only [D.lt, twS_next, St.next_new]; omega⟩, ⟨rfl, trivial, trivial, trivial, trivial, trivial, trivial, trivial⟩, ⟨rfl, trivial⟩, trivial⟩
            have hlt2 := ((twS_wf hwf _ _ _ _).obj id o ho).1
            rw [twS_next] at hlt2
            have q3 : ¬ id = σ.next + 3 := by omega
            have q4 : ¬ id = σ.next + 2 + 1 := by omega
            simp only [twS, wantI, e, St.obj_put, St.obj_new, St.next_new, St.next_put, q3, q4, if_false] at ho ⊢
            have q5 : ¬ id = σ.next + 1 + 1 + 1 := by omega
            simp [q5] at ho ⊢
            exact ho
          · have d3 : decide (ta ≤ (s.size : Int)) = false := decide_eq_false (by omega)
            have e : textI s (ka, fa, ta) = ⟨#[]⟩ := by unfold textI; rw [if_neg (by simp only; omega)]
            refine hgo_sound 90 ?_
            simp -implicitDefEqProofs (maxSteps := 1000000) only [simpS, ↓condJ_true, ↓condJ_false, ↓reduceIte, Nat.reduceEqDiff, Nat.reduceLT, Nat.reduceLeDiff, reduceCtorEq, Nat.reduceAdd, Nat.reduceSub, bindG_none, addG_none, hgrpK_none, nestK_none, hgrpK_guarded, Option.map_none, beq_self_eq_true, bne_self_eq_false, Option.map_some, if_true, if_false, List.getD_cons_zero, List.getD_cons_succ, List.length_cons, List.length_nil, List.mem_cons, List.not_mem_nil, List.mem_append, List.nil_append, List.cons_append, List.append_nil, List.take_succ_cons, List.take_zero, List.drop_succ_cons, List.drop_zero, List.set_cons_zero, List.set_cons_succ, List.map_cons, List.map_nil, implies_true, forall_const, ne_eq, d1, d2, d3, m1, m3, c1, c3, w1, l12, textI_size, twS, wantI, ix3, encT3, Nat.lt_irrefl]
            intro hw5 hl5 hn5
            refine ⟨2, by omega, by omega, ?_⟩
            refine Drop.allS ⟨by simp only [twS_next, St.next_put, St.next_new]; omega, fun id o ho => ?_, rfl⟩ (twS_wf hwf _ _ _ _) (by rw [hnx]; simp only [twS_next, St.next_new]; omega) ⟨⟨rfl, trivial⟩, ⟨rfl, by simp only [D.lt, twS_next, St.next_new]; omega⟩, ⟨rfl, by simp only [D.lt, twS_next, St.next_new]; omega⟩, ⟨rfl, by simp only [D.lt, twS_next, St.next_new]; omega⟩, ⟨rfl, trivial, trivial, trivial, trivial, trivial, trivial, trivial⟩, ⟨rfl, trivial⟩, trivial⟩
            have hlt2 := ((twS_wf hwf _ _ _ _).obj id o ho).1
            rw [twS_next] at hlt2
            have q3 : ¬ id = σ.next + 3 := by omega
            have q4 : ¬ id = σ.next + 2 + 1 := by omega
            simp only [twS, wantI, e, St.obj_put, St.obj_new, St.next_new, St.next_put, q3, q4, if_false] at ho ⊢
            have q5 : ¬ id = σ.next + 1 + 1 + 1 := by omega
            simp [q5] at ho ⊢
            exact ho
        · have d2 : decide (fa ≤ ta) = false := decide_eq_false (by omega)
          have e : textI s (ka, fa, ta) = ⟨#[]⟩ := by unfold textI; rw [if_neg (by simp only; omega)]
          refine hgo_sound 90 ?_
          simp -implicitDefEqProofs (maxSteps := 1000000) only [simpS, ↓condJ_true, ↓condJ_false, ↓reduceIte, Nat.reduceEqDiff, Nat.reduceLT, Nat.reduceLeDiff, reduceCtorEq, Nat.reduceAdd, Nat.reduceSub, bindG_none, addG_none, hgrpK_none, nestK_none, hgrpK_guarded, Option.map_none, beq_self_eq_true, bne_self_eq_false, Option.map_some, if_true, if_false, List.getD_cons_zero, List.getD_cons_succ, List.length_cons, List.length_nil, List.mem_cons, List.not_mem_nil, List.mem_append, List.nil_append, List.cons_append, List.append_nil, List.take_succ_cons, List.take_zero, List.drop_succ_cons, List.drop_zero, List.set_cons_zero, List.set_cons_succ, List.map_cons, List.map_nil, implies_true, forall_const, ne_eq, d1, d2, m1, m3, c1, c3, w1, l12, textI_size, twS, wantI, ix3, encT3, Nat.lt_irrefl]
          intro hw5 hl5 hn5
          refine ⟨2, by omega, by omega, ?_⟩
          refine Drop.allS ⟨by simp only [twS_next, St.next_put, St.next_new]; omega, fun id o ho => ?_, rfl⟩ (twS_wf hwf _ _ _ _) (by rw [hnx]; simp only [twS_next, St.next_new]; omega) ⟨⟨rfl, trivial⟩, ⟨rfl, by simp only [D.lt, twS_next, St.next_new]; omega⟩, ⟨rfl, by simp only [D.lt, twS_next, St.next_new]; omega⟩, ⟨rfl, by simp only [D.lt, twS_next, St.next_new]; omega⟩, ⟨rfl, trivial, trivial, trivial, trivial, trivial, trivial, trivial⟩, ⟨rfl, trivial⟩, trivial⟩
          have hlt2 := ((twS_wf hwf _ _ _ _).obj id o ho).1
          rw [twS_next] at hlt2
          have q3 : ¬ id = σ.next + 3 := by omega
          have q4 : ¬ id = σ.next + 2 + 1 := by omega
          simp only [twS, wantI, e, St.obj_put, St.obj_new, St.next_new, St.next_put, q3, q4, if_false] at ho ⊢
          have q5 : ¬ id = σ.next + 1 + 1 + 1 := by omega
          simp [q5] at ho ⊢
          exact ho
      · have d1 : decide (fa ≥ 0) = false := decide_eq_false (by omega)
        have e : textI s (ka, fa, ta) = ⟨#[]⟩ := by unfold textI; rw [if_neg (by simp only; omega)]
        refine hgo_sound 90 ?_
        simp -implicitDefEqProofs (maxSteps := 1000000) only [simpS, ↓condJ_true, ↓condJ_false, ↓reduceIte, Nat.reduceEqDiff, Nat.reduceLT, Nat.reduceLeDiff, reduceCtorEq, Nat.reduceAdd, Nat.reduceSub, bindG_none, addG_none, hgrpK_none, nestK_none, hgrpK_guarded, Option.map_none, beq_self_eq_true, bne_self_eq_false, Option.map_some, if_true, if_false, List.getD_cons_zero, List.getD_cons_succ, List.length_cons, List.length_nil, List.mem_cons, List.not_mem_nil, List.mem_append, List.nil_append, List.cons_append, List.append_nil, List.take_succ_cons, List.take_zero, List.drop_succ_cons, List.drop_zero, List.set_cons_zero, List.set_cons_succ, List.map_cons, List.map_nil, implies_true, forall_const, ne_eq, d1, m1, m3, c1, c3, w1, l12, textI_size, twS, wantI, ix3, encT3, Nat.lt_irrefl]
        intro hw5 hl5 hn5
        refine ⟨2, by omega, by omega, ?_⟩
        refine Drop.allS ⟨by simp only [twS_next, St.next_put, St.next_new]; omega, fun id o ho => ?_, rfl⟩ (twS_wf hwf _ _ _ _) (by rw [hnx]; simp only [twS_next, St.next_new]; omega) ⟨⟨rfl, trivial⟩, ⟨rfl, by simp only [D.lt, twS_next, St.next_new]; omega⟩, ⟨rfl, by simp only [D.lt, twS_next, St.next_new]; omega⟩, ⟨rfl, by simp only [D.lt, twS_next, St.next_new]; omega⟩, ⟨rfl, trivial, trivial, trivial, trivial, trivial, trivial, trivial⟩, ⟨rfl, trivial⟩, trivial⟩
        have hlt2 := ((twS_wf hwf _ _ _ _).obj id o ho).1
        rw [twS_next] at hlt2
        have q3 : ¬ id = σ.next + 3 := by omega
        have q4 : ¬ id = σ.next + 2 + 1 := by omega
        simp only [twS, wantI, e, St.obj_put, St.obj_new, St.next_new, St.next_put, q3, q4, if_false] at ho ⊢
        have q5 : ¬ id = σ.next + 1 + 1 + 1 := by omega
        simp [q5] at ho ⊢
        exact ho
    · simp only [ix3]
      refine hgo_sound 60 ?_
      simp -implicitDefEqProofs (maxSteps := 1000000) only [simpS, ↓condJ_true, ↓condJ_false, ↓reduceIte, Nat.reduceEqDiff, Nat.reduceLT, Nat.reduceLeDiff, reduceCtorEq, Nat.reduceAdd, Nat.reduceSub, bindG_none, addG_none, hgrpK_none, nestK_none, hgrpK_guarded, Option.map_none, beq_self_eq_true, bne_self_eq_false, Option.map_some, if_true, if_false, List.getD_cons_zero, List.getD_cons_succ, List.length_cons, List.length_nil, List.mem_cons, List.not_mem_nil, List.mem_append, List.nil_append, List.cons_append, List.append_nil, List.take_succ_cons, List.take_zero, List.drop_succ_cons, List.drop_zero, List.set_cons_zero, List.set_cons_succ, List.map_cons, List.map_nil, implies_true, forall_const, ne_eq, l22]
      have b1 := textI_size s x
      have b2 := textI_size s y
      have e1 : decide (textI s x = textI s x) = true := decide_eq_true rfl
      have e2 : decide (joinI s [x, y] = textI s x ++ textI s y) = true := decide_eq_true (by
        simp only [joinI]
        rw [show textI s y ++ (⟨#[]⟩ : ByteArray) = textI s y from ByteArray.append_empty])
      have e3 : decide (joinI s [] = ⟨#[]⟩) = true := decide_eq_true rfl
      have e4 : (textI s x).size + (textI s y).size ≤ 9223372036854775807 := by omega
      refine hx_drawgo 1 ?_
      simp -implicitDefEqProofs (maxSteps := 100000000) only [drawS, List.map_cons, List.map_nil, List.getElem?_cons_zero, List.getElem?_cons_succ, List.getElem?_nil, simpS, ↓condJ_true, ↓condJ_false, ↓reduceIte, Nat.reduceEqDiff, Nat.reduceLT, Nat.reduceLeDiff, reduceCtorEq, Nat.reduceAdd, Nat.reduceSub, bindG_none, addG_none, hgrpK_none, nestK_none, hgrpK_guarded, Option.map_none, beq_self_eq_true, bne_self_eq_false, Option.map_some, if_true, if_false, List.getD_cons_zero, List.getD_cons_succ, List.length_cons, List.length_nil, List.mem_cons, List.not_mem_nil, List.mem_append, List.nil_append, List.cons_append, List.append_nil, List.take_succ_cons, List.take_zero, List.drop_succ_cons, List.drop_zero, List.set_cons_zero, List.set_cons_succ, List.map_cons, List.map_nil, implies_true, forall_const, ne_eq, hnt', m2, m3, c0, c1, c2, c3, e1, e2, e3, e4, twS, wantI, encT3]
      refine hd_call (i := 2) (f := .fn 15) (by simp -implicitDefEqProofs (maxSteps := 100000000) only [drawS, List.map_cons, List.map_nil, List.getElem?_cons_zero, List.getElem?_cons_succ, List.getElem?_nil, simpS, ↓condJ_true, ↓condJ_false, ↓reduceIte, Nat.reduceEqDiff, Nat.reduceLT, Nat.reduceLeDiff, reduceCtorEq, Nat.reduceAdd, Nat.reduceSub, bindG_none, addG_none, hgrpK_none, nestK_none, hgrpK_guarded, Option.map_none, beq_self_eq_true, bne_self_eq_false, Option.map_some, if_true, if_false, List.getD_cons_zero, List.getD_cons_succ, List.length_cons, List.length_nil, List.mem_cons, List.not_mem_nil, List.mem_append, List.nil_append, List.cons_append, List.append_nil, List.take_succ_cons, List.take_zero, List.drop_succ_cons, List.drop_zero, List.set_cons_zero, List.set_cons_succ, List.map_cons, List.map_nil, implies_true, forall_const, ne_eq, hnt', m2, m3, c0, c1, c2, c3, e1, e2, e3, e4, twS, wantI, encT3]) (by rfl) (by rfl) rfl (by rfl) (by rw [hP]; exact hcallD_func (ttextI_calls s x _)) ?_
      rintro _ σ2 ⟨rfl, h⟩
      subst σ2
      refine hdgo_sound 1 ?_
      simp -implicitDefEqProofs (maxSteps := 3000000) only [drawS, List.map_cons, List.map_nil, List.getElem?_cons_zero, List.getElem?_cons_succ, List.getElem?_nil, simpS, ↓condJ_true, ↓condJ_false, ↓reduceIte, Nat.reduceEqDiff, Nat.reduceLT, Nat.reduceLeDiff, reduceCtorEq, Nat.reduceAdd, Nat.reduceSub, bindG_none, addG_none, hgrpK_none, nestK_none, hgrpK_guarded, Option.map_none, beq_self_eq_true, bne_self_eq_false, Option.map_some, if_true, if_false, List.getD_cons_zero, List.getD_cons_succ, List.length_cons, List.length_nil, List.mem_cons, List.not_mem_nil, List.mem_append, List.nil_append, List.cons_append, List.append_nil, List.take_succ_cons, List.take_zero, List.drop_succ_cons, List.drop_zero, List.set_cons_zero, List.set_cons_succ, List.map_cons, List.map_nil, implies_true, forall_const, ne_eq, hnt', m2, m3, c0, c1, c2, c3, e1, e2, e3, e4, twS, wantI, encT3]
      refine hd_call (i := 11) (f := .fn 20) (by simp -implicitDefEqProofs (maxSteps := 100000000) only [drawS, List.map_cons, List.map_nil, List.getElem?_cons_zero, List.getElem?_cons_succ, List.getElem?_nil, simpS, ↓condJ_true, ↓condJ_false, ↓reduceIte, Nat.reduceEqDiff, Nat.reduceLT, Nat.reduceLeDiff, reduceCtorEq, Nat.reduceAdd, Nat.reduceSub, bindG_none, addG_none, hgrpK_none, nestK_none, hgrpK_guarded, Option.map_none, beq_self_eq_true, bne_self_eq_false, Option.map_some, if_true, if_false, List.getD_cons_zero, List.getD_cons_succ, List.length_cons, List.length_nil, List.mem_cons, List.not_mem_nil, List.mem_append, List.nil_append, List.cons_append, List.append_nil, List.take_succ_cons, List.take_zero, List.drop_succ_cons, List.drop_zero, List.set_cons_zero, List.set_cons_succ, List.map_cons, List.map_nil, implies_true, forall_const, ne_eq, hnt', m2, m3, c0, c1, c2, c3, e1, e2, e3, e4, twS, wantI, encT3]) (by rfl) (by rfl) rfl (by rfl) (by rw [hP]; exact hcallD_func (hcalls_last (fun _ _ _ => R_no) (joinI_calls s [x, y] (by simp) (by omega) _))) ?_
      rintro _ σ2 ⟨rfl, h⟩
      subst σ2
      refine hdgo_sound 1 ?_
      simp -implicitDefEqProofs (maxSteps := 3000000) only [drawS, List.map_cons, List.map_nil, List.getElem?_cons_zero, List.getElem?_cons_succ, List.getElem?_nil, simpS, ↓condJ_true, ↓condJ_false, ↓reduceIte, Nat.reduceEqDiff, Nat.reduceLT, Nat.reduceLeDiff, reduceCtorEq, Nat.reduceAdd, Nat.reduceSub, bindG_none, addG_none, hgrpK_none, nestK_none, hgrpK_guarded, Option.map_none, beq_self_eq_true, bne_self_eq_false, Option.map_some, if_true, if_false, List.getD_cons_zero, List.getD_cons_succ, List.length_cons, List.length_nil, List.mem_cons, List.not_mem_nil, List.mem_append, List.nil_append, List.cons_append, List.append_nil, List.take_succ_cons, List.take_zero, List.drop_succ_cons, List.drop_zero, List.set_cons_zero, List.set_cons_succ, List.map_cons, List.map_nil, implies_true, forall_const, ne_eq, hnt', m2, m3, c0, c1, c2, c3, e1, e2, e3, e4, twS, wantI, encT3]
      refine hd_call (i := 21) (f := .fn 20) (by simp -implicitDefEqProofs (maxSteps := 100000000) only [drawS, List.map_cons, List.map_nil, List.getElem?_cons_zero, List.getElem?_cons_succ, List.getElem?_nil, simpS, ↓condJ_true, ↓condJ_false, ↓reduceIte, Nat.reduceEqDiff, Nat.reduceLT, Nat.reduceLeDiff, reduceCtorEq, Nat.reduceAdd, Nat.reduceSub, bindG_none, addG_none, hgrpK_none, nestK_none, hgrpK_guarded, Option.map_none, beq_self_eq_true, bne_self_eq_false, Option.map_some, if_true, if_false, List.getD_cons_zero, List.getD_cons_succ, List.length_cons, List.length_nil, List.mem_cons, List.not_mem_nil, List.mem_append, List.nil_append, List.cons_append, List.append_nil, List.take_succ_cons, List.take_zero, List.drop_succ_cons, List.drop_zero, List.set_cons_zero, List.set_cons_succ, List.map_cons, List.map_nil, implies_true, forall_const, ne_eq, hnt', m2, m3, c0, c1, c2, c3, e1, e2, e3, e4, twS, wantI, encT3]) (by rfl) (by rfl) rfl (by rfl) (by rw [hP]; exact hcallD_func (hcalls_last (fun _ _ _ => R_nil_no) (joinI_calls s [] (by simp) (by omega) _))) ?_
      rintro _ σ2 ⟨rfl, h⟩
      subst σ2
      refine hdgo_sound 1 ?_
      simp -implicitDefEqProofs (maxSteps := 3000000) only [drawS, List.map_cons, List.map_nil, List.getElem?_cons_zero, List.getElem?_cons_succ, List.getElem?_nil, simpS, ↓condJ_true, ↓condJ_false, ↓reduceIte, Nat.reduceEqDiff, Nat.reduceLT, Nat.reduceLeDiff, reduceCtorEq, Nat.reduceAdd, Nat.reduceSub, bindG_none, addG_none, hgrpK_none, nestK_none, hgrpK_guarded, Option.map_none, beq_self_eq_true, bne_self_eq_false, Option.map_some, if_true, if_false, List.getD_cons_zero, List.getD_cons_succ, List.length_cons, List.length_nil, List.mem_cons, List.not_mem_nil, List.mem_append, List.nil_append, List.cons_append, List.append_nil, List.take_succ_cons, List.take_zero, List.drop_succ_cons, List.drop_zero, List.set_cons_zero, List.set_cons_succ, List.map_cons, List.map_nil, implies_true, forall_const, ne_eq, hnt', m2, m3, c0, c1, c2, c3, e1, e2, e3, e4, twS, wantI, encT3]
      refine hgo_sound 60 ?_
      simp -implicitDefEqProofs (maxSteps := 1000000) only [simpS, ↓condJ_true, ↓condJ_false, ↓reduceIte, Nat.reduceEqDiff, Nat.reduceLT, Nat.reduceLeDiff, reduceCtorEq, Nat.reduceAdd, Nat.reduceSub, bindG_none, addG_none, hgrpK_none, nestK_none, hgrpK_guarded, Option.map_none, beq_self_eq_true, bne_self_eq_false, Option.map_some, if_true, if_false, List.getD_cons_zero, List.getD_cons_succ, List.length_cons, List.length_nil, List.mem_cons, List.not_mem_nil, List.mem_append, List.nil_append, List.cons_append, List.append_nil, List.take_succ_cons, List.take_zero, List.drop_succ_cons, List.drop_zero, List.set_cons_zero, List.set_cons_succ, List.map_cons, List.map_nil, implies_true, forall_const, ne_eq]
      exact fpost_pure (σ0 := σ) (.inr rfl) (by rw [hnx]; exact Nat.le_refl _) hwf (((((Ext.refl _).new _).new _).new _).sub hwf) rfl trivial trivial ⟨rfl, rfl⟩
  · have d4 : decide ((s.size : Int) > 4000) = true := decide_eq_true (by omega)
    refine hgo_sound 60 ?_
    simp -implicitDefEqProofs (maxSteps := 1000000) only [simpS, ↓condJ_true, ↓condJ_false, ↓reduceIte, Nat.reduceEqDiff, Nat.reduceLT, Nat.reduceLeDiff, reduceCtorEq, Nat.reduceAdd, Nat.reduceSub, bindG_none, addG_none, hgrpK_none, nestK_none, hgrpK_guarded, Option.map_none, beq_self_eq_true, bne_self_eq_false, Option.map_some, if_true, if_false, List.getD_cons_zero, List.getD_cons_succ, List.length_cons, List.length_nil, List.mem_cons, List.not_mem_nil, List.mem_append, List.nil_append, List.cons_append, List.append_nil, List.take_succ_cons, List.take_zero, List.drop_succ_cons, List.drop_zero, List.set_cons_zero, List.set_cons_succ, List.map_cons, List.map_nil, implies_true, forall_const, ne_eq, d4]
    exact fpost_pure (σ0 := σ) (.inr rfl) (by rw [hnx]; exact Nat.le_refl _) hwf ((((Ext.refl _).new _).new _).sub hwf) rfl trivial trivial ⟨rfl, rfl⟩

end Go.Hl
