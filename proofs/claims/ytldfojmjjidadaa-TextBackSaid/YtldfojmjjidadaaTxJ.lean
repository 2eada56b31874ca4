/-
  Layer 1: the law TextBack.
-/
import Derived.Test.YtldfojmjjidadaaTxI
set_option linter.unusedSectionVars false
set_option linter.unusedVariables false
set_option linter.unusedSimpArgs false
set_option maxRecDepth 100000
namespace Go.Hl
open Go Go.Proofs Go.RowKit

/-! ### Lines, joined -/

theorem lenTo_at : ∀ (l : List UInt8), lenTo l < l.length → l.getD (lenTo l) 0 = 10
  | [], h => by simp at h
  | b :: r, h => by
    simp only [lenTo, List.length_cons] at h ⊢
    by_cases hb : b = 10
    · simp [hb]
    · rw [if_neg hb] at h ⊢
      have := lenTo_at r (by omega)
      simpa using this

/-- What stands ahead of line j. -/
def pfx (s : ByteArray) (j : Nat) : ByteArray := s.extract 0 (if j < (begs s).length then (begs s).getD j 0 - 1 else s.size)

theorem pfx_zero (s : ByteArray) : pfx s 0 = ⟨#[]⟩ := by
  unfold pfx
  rw [if_pos (begs_pos s)]
  exact ex_empty s 0
theorem pfx_all (s : ByteArray) : pfx s (begs s).length = s := by
  unfold pfx
  rw [if_neg (Nat.lt_irrefl _)]
  exact ByteArray.extract_zero_size

theorem feed_at (s : ByteArray) (j : Nat) (hj : j + 1 < (begs s).length) : s.extract ((begs s).getD (j + 1) 0 - 1) ((begs s).getD (j + 1) 0) = ⟨#[10]⟩ := by
  obtain ⟨h1, h2, h3⟩ := begs_next s j (by omega)
  have h4 := h2 hj
  have hle := begs_le s (j + 1) hj
  have hlen : s.data.toList.length = s.size := by simp
  have h5 := lenTo_at (s.data.toList.drop ((begs s).getD j 0)) (by rw [List.length_drop, hlen]; omega)
  rw [h4] at hle ⊢
  generalize (begs s).getD j 0 = b at *
  generalize lenTo (s.data.toList.drop b) = n at *
  rw [Nat.add_sub_cancel]
  apply ByteArray.ext
  have h6 : s.data.toList[b + n]? = some 10 := by
    have hb : b + n < s.data.toList.length := by omega
    rw [List.getD, List.getElem?_drop, List.getElem?_eq_getElem hb] at h5
    rw [List.getElem?_eq_getElem hb]
    simpa using h5
  apply Array.toList_inj.1
  rw [ex_list, List.drop_take, Nat.add_sub_cancel_left]
  rw [List.take_one, List.head?_drop, h6]
  rfl

theorem pfx_step (s : ByteArray) (j : Nat) (hj : j < (begs s).length) :
    (if 0 < (begs s).getD j 0 then pfx s j ++ (⟨#[10]⟩ : ByteArray) else pfx s j) = s.extract 0 ((begs s).getD j 0) ∧ s.extract 0 ((begs s).getD j 0) ++ lnA s ((begs s).getD j 0) = pfx s (j + 1) := by
  obtain ⟨h1, h2, h3⟩ := begs_next s j hj
  constructor
  · unfold pfx
    rw [if_pos hj]
    rcases j with _ | j
    · have h0 : (begs s).getD 0 0 = 0 := rfl
      rw [h0]
      rfl
    · have := begs_mono s 0 j (by omega)
      rw [Nat.add_zero] at this
      rw [if_pos (by omega), ← feed_at s j hj, ByteArray.extract_append_extract]
      congr 1 <;> omega
  · unfold lnA pfx
    rw [ByteArray.extract_append_extract, Nat.zero_min, Nat.max_eq_right (by omega)]
    congr 1
    split
    · rename_i h
      have := h2 h
      omega
    · exact h3 (by omega)

theorem pfx_size (s : ByteArray) (j : Nat) (hj : j < (begs s).length) : (s.extract 0 ((begs s).getD j 0)).size = (begs s).getD j 0 := by
  have := begs_le s j hj
  rw [ByteArray.size_extract, Nat.min_eq_left this]
  omega

def bkStep (c : ByteArray) (x : Nat × ByteArray) : ByteArray × Option HC := ((if 0 < x.1 then c ++ (⟨#[10]⟩ : ByteArray) else c) ++ x.2, none)
def bkOk (s : ByteArray) (c : ByteArray) (x : Nat × ByteArray) : Prop := ∃ j, j < (begs s).length ∧ c = pfx s j ∧ x = ((begs s).getD j 0, lnA s ((begs s).getD j 0))
theorem bkStep_at (s : ByteArray) (j : Nat) (hj : j < (begs s).length) : bkStep (pfx s j) ((begs s).getD j 0, lnA s ((begs s).getD j 0)) = (pfx s (j + 1), none) := by
  unfold bkStep
  simp only
  rw [(pfx_step s j hj).1, (pfx_step s j hj).2]
theorem bk_all (s : ByteArray) : ∀ (l : List Nat) (j : Nat), (begs s).drop j = l → rngOks (bkOk s) bkStep (pfx s j) (itemsF s l) ∧ rngRun bkStep (pfx s j) (itemsF s l) = (pfx s (j + l.length), none)
  | [], j, h => ⟨trivial, rfl⟩
  | b :: r, j, h => by
    have hj : j < (begs s).length := by
      rcases Nat.lt_or_ge j (begs s).length with h' | h'
      · exact h'
      · rw [List.drop_eq_nil_of_le h'] at h; cases h
    have h' := List.drop_eq_getElem_cons hj
    rw [h] at h'
    injection h' with e1 e2
    have e3 : b = (begs s).getD j 0 := by rw [getD_el hj]; exact e1
    obtain ⟨i1, i2⟩ := bk_all s r (j + 1) e2.symm
    have hst := bkStep_at s j hj
    rw [items_cons, e3]
    constructor
    · refine ⟨⟨j, hj, rfl, rfl⟩, fun _ => ?_⟩
      rw [hst]
      exact i1
    · simp only [rngRun, hst]
      rw [i2]
      simp only [List.length_cons]
      congr 2
      omega

theorem back_place (s : ByteArray) (i : Nat) (hi : i ≤ s.size) : placeD s i = [.int .i64 ((plP s i).1 : Nat), .int .i64 ((plP s i).2 : Nat), .nili] ∧ atD s ((plP s i).1 : Nat) ((plP s i).2 : Nat) = [.int .i64 i, .nili] := by
  have h := (plP_iff s i (plP s i).1 (plP s i).2 hi).1 rfl
  constructor
  · unfold placeD
    rw [if_pos ⟨by omega, by omega⟩, Int.toNat_natCast]
  · unfold atD
    rw [if_pos ⟨by omega, by omega, by omega, by rw [Int.toNat_natCast]; omega⟩]
    simp only [Int.toNat_natCast]
    rw [← h.2.2]
theorem plP_le (s : ByteArray) (i : Nat) (hi : i ≤ s.size) : (plP s i).1 ≤ s.size := by
  have h := (plP_iff s i (plP s i).1 (plP s i).2 hi).1 rfl
  have := begs_len s
  omega

structure BkS where
  i : Nat

set_option maxHeartbeats 4000000 in
theorem textBack_calls (s : ByteArray) (σ : St) : HCalls Try.prog 5 [.str s] σ (fun d _ => d = .bool true) := by
  refine hcalls_body (fn := Try.f5) rfl c5 (by simp [h5]) (by simp [h5, Try.f5]) ?_
  intro M hP hr hnt hnx hwf hlt
  simp only [h5, argEnv]
  refine hgo_sound 60 ?_
  simp -implicitDefEqProofs (maxSteps := 1000000) only [simpS, ↓condJ_true, ↓condJ_false, ↓reduceIte, Nat.reduceEqDiff, Nat.reduceLT, Nat.reduceLeDiff, reduceCtorEq, Nat.reduceAdd, Nat.reduceSub, bindG_none, addG_none, hgrpK_none, nestK_none, hgrpK_guarded, Option.map_none, beq_self_eq_true, bne_self_eq_false, Option.map_some, if_true, if_false, List.getD_cons_zero, List.getD_cons_succ, List.length_cons, List.length_nil, List.mem_cons, List.not_mem_nil, List.mem_append, List.nil_append, List.cons_append, List.append_nil, List.take_succ_cons, List.take_zero, List.drop_succ_cons, List.drop_zero, List.set_cons_zero, List.set_cons_succ, List.map_cons, List.map_nil, implies_true, forall_const, ne_eq]
  refine hx_call (f := .fn 6) rfl (by rw [hP]; exact hcallD_func (alive_calls _)) ?_
  rintro _ σ2 ⟨rfl, h⟩
  subst σ2
  by_cases hs : 400 < s.size
  · have hd : decide ((s.size : Int) > 400) = true := by simp; omega
    refine hgo_sound 60 ?_
    simp -implicitDefEqProofs (maxSteps := 1000000) only [simpS, ↓condJ_true, ↓condJ_false, ↓reduceIte, Nat.reduceEqDiff, Nat.reduceLT, Nat.reduceLeDiff, reduceCtorEq, Nat.reduceAdd, Nat.reduceSub, bindG_none, addG_none, hgrpK_none, nestK_none, hgrpK_guarded, Option.map_none, beq_self_eq_true, bne_self_eq_false, Option.map_some, if_true, if_false, List.getD_cons_zero, List.getD_cons_succ, List.length_cons, List.length_nil, List.mem_cons, List.not_mem_nil, List.mem_append, List.nil_append, List.cons_append, List.append_nil, List.take_succ_cons, List.take_zero, List.drop_succ_cons, List.drop_zero, List.set_cons_zero, List.set_cons_succ, List.map_cons, List.map_nil, implies_true, forall_const, ne_eq, hd]
    exact fpost_pure (σ0 := σ) (.inr rfl) (by rw [hnx]; exact Nat.le_refl _) hwf (((Ext.refl σ).new _).sub hwf) (resD_cell (d := .bool true) rfl (by simp [St.obj_new, St.next_new, St.obj_bump]) resD_nil) ⟨by omega, trivial⟩ trivial rfl
  have hd : decide ((s.size : Int) > 400) = false := by simp; omega
  have hw1 : IntKind.i64.wrap ((s.size : Int) + 1) = ((s.size + 1 : Nat) : Int) := by rw [IntWalk.i64_in _ (by omega)]; rfl
  refine hgo_sound 60 ?_
  simp -implicitDefEqProofs (maxSteps := 1000000) only [simpS, ↓condJ_true, ↓condJ_false, ↓reduceIte, Nat.reduceEqDiff, Nat.reduceLT, Nat.reduceLeDiff, reduceCtorEq, Nat.reduceAdd, Nat.reduceSub, bindG_none, addG_none, hgrpK_none, nestK_none, hgrpK_guarded, Option.map_none, beq_self_eq_true, bne_self_eq_false, Option.map_some, if_true, if_false, List.getD_cons_zero, List.getD_cons_succ, List.length_cons, List.length_nil, List.mem_cons, List.not_mem_nil, List.mem_append, List.nil_append, List.cons_append, List.append_nil, List.take_succ_cons, List.take_zero, List.drop_succ_cons, List.drop_zero, List.set_cons_zero, List.set_cons_succ, List.map_cons, List.map_nil, implies_true, forall_const, ne_eq, hd]
  refine hx_call (f := .fn 8) rfl (by rw [hP]; exact hcallD_func (new_calls s _)) ?_
  rintro _ σ2 ⟨rfl, rfl⟩
  refine hgo_sound 60 ?_
  simp -implicitDefEqProofs (maxSteps := 1000000) only [simpS, ↓condJ_true, ↓condJ_false, ↓reduceIte, Nat.reduceEqDiff, Nat.reduceLT, Nat.reduceLeDiff, reduceCtorEq, Nat.reduceAdd, Nat.reduceSub, bindG_none, addG_none, hgrpK_none, nestK_none, hgrpK_guarded, Option.map_none, beq_self_eq_true, bne_self_eq_false, Option.map_some, if_true, if_false, List.getD_cons_zero, List.getD_cons_succ, List.length_cons, List.length_nil, List.mem_cons, List.not_mem_nil, List.mem_append, List.nil_append, List.cons_append, List.append_nil, List.take_succ_cons, List.take_zero, List.drop_succ_cons, List.drop_zero, List.set_cons_zero, List.set_cons_succ, List.map_cons, List.map_nil, implies_true, forall_const, ne_eq, hw1]
  refine hx_know_code fun hw hl hn => ?_
  have H := newS_tbP (σ.new (.box [.bool false])) s
  have E := new_ext0 (σ.new (.box [.bool false])) s
  have hre : (newS (σ.new (.box [.bool false])) s).obj σ.next = some (.box [.bool false]) := by
    rw [E.obj _ (Nat.lt_succ_self _)]
    simp [St.obj_new]
  have hnx1 : (newS (σ.new (.box [.bool false])) s).next = σ.next + 3 := rfl
  simp only [St.next_new] at H hl hw hn ⊢
  generalize newS (σ.new (.box [.bool false])) s = τ at *
  have H1 : TbP (tbS τ (σ.next + 1) (σ.next + 2) s) (σ.next + 1) (σ.next + 2) s := tbS_tbP H.1
  have hnx2 : (tbS τ (σ.next + 1) (σ.next + 2) s).next = σ.next + 3 := hnx1
  have hself : tbS (tbS τ (σ.next + 1) (σ.next + 2) s) (σ.next + 1) (σ.next + 2) s = tbS τ (σ.next + 1) (σ.next + 2) s := tbS_tbS H.1
  have Er : Ext (σ.new (.box [.bool false])) (tbS τ (σ.next + 1) (σ.next + 2) s) := (E.put (by simp only [St.next_new]; omega) _).put (by simp only [St.next_new]; omega) _
  have hrω : (tbS τ (σ.next + 1) (σ.next + 2) s).obj σ.next = some (.box [.bool false]) := by
    rw [Er.obj _ (Nat.lt_succ_self _)]
    simp [St.obj_new]
  have hwω : (tbS τ (σ.next + 1) (σ.next + 2) s).wf := H.wf hw
  have hif : ∀ i : Nat, TbP (if i = 0 then τ else tbS τ (σ.next + 1) (σ.next + 2) s) (σ.next + 1) (σ.next + 2) s ∧ tbS (if i = 0 then τ else tbS τ (σ.next + 1) (σ.next + 2) s) (σ.next + 1) (σ.next + 2) s = tbS τ (σ.next + 1) (σ.next + 2) s := by
    intro i
    split
    · exact ⟨H, rfl⟩
    · exact ⟨H1, hself⟩
  generalize tbS τ (σ.next + 1) (σ.next + 2) s = ω at *
  refine hx_loop (S := BkS) (fun t => [(0, .str s), (2, .ptr σ.next 0), (3, .ptr (σ.next + 1) 0), (30, .int .i64 ((s.size + 1 : Nat) : Int)), (31, .int .i64 t.i)]) (fun t => if t.i = 0 then τ else ω)
    (fun t => t.i ≤ s.size + 1) (fun t => s.size + 1 - t.i) ⟨0⟩ (Nat.zero_le _) (fun _ _ h => by rw [hr] at h; cases h) ?_ ?_
  · show Drop _ _ (if 0 = 0 then τ else ω) _ _
    rw [if_pos rfl]
    exact Drop.all hw (by rw [hnx1]; omega) ⟨⟨rfl, trivial⟩, ⟨rfl, by simp only [D.lt, hnx1]; omega⟩, ⟨rfl, by simp only [D.lt, hnx1]; omega⟩, ⟨rfl, trivial⟩, ⟨rfl, trivial⟩, trivial⟩
  rintro ⟨i⟩ h1
  simp only at h1 ⊢
  by_cases hi : i < s.size + 1
  · have hd1 : decide ((i : Int) < ((s.size + 1 : Nat) : Int)) = true := by simp; omega
    have hi' : (0 : Int) ≤ (i : Int) ∧ (i : Int) ≤ s.size := by omega
    obtain ⟨p1, p2⟩ := back_place s i (by omega)
    have p3 := plP_le s i (by omega)
    obtain ⟨q1, q2⟩ := hif i
    have hw2 : IntKind.i64.wrap ((i : Int) + 1) = ((i + 1 : Nat) : Int) := by rw [IntWalk.i64_in _ (by omega)]; rfl
    have hlt0 : ¬ (((plP s i).1 : Nat) : Int) < 0 := by omega
    have hc := at_calls (s := s) (by omega) (n := ((plP s i).1 : Nat)) (c := ((plP s i).2 : Nat)) (by omega) (by omega) ω H1
    rw [p2, if_neg hlt0, hself] at hc
    refine hgo_sound 60 ?_
    simp -implicitDefEqProofs (maxSteps := 1000000) only [simpS, ↓condJ_true, ↓condJ_false, ↓reduceIte, Nat.reduceEqDiff, Nat.reduceLT, Nat.reduceLeDiff, reduceCtorEq, Nat.reduceAdd, Nat.reduceSub, bindG_none, addG_none, hgrpK_none, nestK_none, hgrpK_guarded, Option.map_none, beq_self_eq_true, bne_self_eq_false, Option.map_some, if_true, if_false, List.getD_cons_zero, List.getD_cons_succ, List.length_cons, List.length_nil, List.mem_cons, List.not_mem_nil, List.mem_append, List.nil_append, List.cons_append, List.append_nil, List.take_succ_cons, List.take_zero, List.drop_succ_cons, List.drop_zero, List.set_cons_zero, List.set_cons_succ, List.map_cons, List.map_nil, implies_true, forall_const, ne_eq, hd1]
    refine hx_call (f := .fn 14) rfl (by rw [hP]; exact hcallD_func (place_calls (by omega) _ q1)) ?_
    rintro _ σ2 ⟨rfl, rfl⟩
    rw [p1, if_pos hi', q2]
    refine hgo_sound 60 ?_
    simp -implicitDefEqProofs (maxSteps := 1000000) only [simpS, ↓condJ_true, ↓condJ_false, ↓reduceIte, Nat.reduceEqDiff, Nat.reduceLT, Nat.reduceLeDiff, reduceCtorEq, Nat.reduceAdd, Nat.reduceSub, bindG_none, addG_none, hgrpK_none, nestK_none, hgrpK_guarded, Option.map_none, beq_self_eq_true, bne_self_eq_false, Option.map_some, if_true, if_false, List.getD_cons_zero, List.getD_cons_succ, List.length_cons, List.length_nil, List.mem_cons, List.not_mem_nil, List.mem_append, List.nil_append, List.cons_append, List.append_nil, List.take_succ_cons, List.take_zero, List.drop_succ_cons, List.drop_zero, List.set_cons_zero, List.set_cons_succ, List.map_cons, List.map_nil, implies_true, forall_const, ne_eq]
    refine hx_call (f := .fn 16) rfl (by rw [hP]; exact hcallD_func (hc)) ?_
    rintro _ σ2 ⟨rfl, h⟩
    subst σ2
    refine hgo_sound 60 ?_
    simp -implicitDefEqProofs (maxSteps := 1000000) only [simpS, ↓condJ_true, ↓condJ_false, ↓reduceIte, Nat.reduceEqDiff, Nat.reduceLT, Nat.reduceLeDiff, reduceCtorEq, Nat.reduceAdd, Nat.reduceSub, bindG_none, addG_none, hgrpK_none, nestK_none, hgrpK_guarded, Option.map_none, beq_self_eq_true, bne_self_eq_false, Option.map_some, if_true, if_false, List.getD_cons_zero, List.getD_cons_succ, List.length_cons, List.length_nil, List.mem_cons, List.not_mem_nil, List.mem_append, List.nil_append, List.cons_append, List.append_nil, List.take_succ_cons, List.take_zero, List.drop_succ_cons, List.drop_zero, List.set_cons_zero, List.set_cons_succ, List.map_cons, List.map_nil, implies_true, forall_const, ne_eq, hw2]
    intro hw5 hl5 hn5
    refine ⟨⟨i + 1⟩, by simp only; omega, by simp only; omega, ?_⟩
    show Drop _ _ (if i + 1 = 0 then τ else ω) _ _
    rw [if_neg (by omega)]
    exact Drop.all hw5 hn5 ⟨⟨rfl, trivial⟩, ⟨rfl, by simp only [D.lt, hnx2]; omega⟩, ⟨rfl, by simp only [D.lt, hnx2]; omega⟩, ⟨rfl, trivial⟩, ⟨rfl, trivial⟩, trivial⟩
  have hii : ¬ i = 0 := by omega
  have hd1 : decide ((i : Int) < ((s.size + 1 : Nat) : Int)) = false := by simp; omega
  rw [if_neg hii]
  have hm0 : ¬ σ.next = σ.next + 3 := by omega
  refine hgo_sound 60 ?_
  simp -implicitDefEqProofs (maxSteps := 1000000) only [simpS, ↓condJ_true, ↓condJ_false, ↓reduceIte, Nat.reduceEqDiff, Nat.reduceLT, Nat.reduceLeDiff, reduceCtorEq, Nat.reduceAdd, Nat.reduceSub, bindG_none, addG_none, hgrpK_none, nestK_none, hgrpK_guarded, Option.map_none, beq_self_eq_true, bne_self_eq_false, Option.map_some, if_true, if_false, List.getD_cons_zero, List.getD_cons_succ, List.length_cons, List.length_nil, List.mem_cons, List.not_mem_nil, List.mem_append, List.nil_append, List.cons_append, List.append_nil, List.take_succ_cons, List.take_zero, List.drop_succ_cons, List.drop_zero, List.set_cons_zero, List.set_cons_succ, List.map_cons, List.map_nil, implies_true, forall_const, ne_eq, hd1, hnx2]
  refine hx_call (f := .fn 10) rfl (by rw [hP]; exact hcallD_func (lines_calls s _)) ?_
  rintro _ σ2 ⟨rfl, h⟩
  subst σ2
  refine hgo_sound 6 ?_
  simp -implicitDefEqProofs (maxSteps := 1000000) only [simpS, ↓condJ_true, ↓condJ_false, ↓reduceIte, Nat.reduceEqDiff, Nat.reduceLT, Nat.reduceLeDiff, reduceCtorEq, Nat.reduceAdd, Nat.reduceSub, bindG_none, addG_none, hgrpK_none, nestK_none, hgrpK_guarded, Option.map_none, beq_self_eq_true, bne_self_eq_false, Option.map_some, if_true, if_false, List.getD_cons_zero, List.getD_cons_succ, List.length_cons, List.length_nil, List.mem_cons, List.not_mem_nil, List.mem_append, List.nil_append, List.cons_append, List.append_nil, List.take_succ_cons, List.take_zero, List.drop_succ_cons, List.drop_zero, List.set_cons_zero, List.set_cons_succ, List.map_cons, List.map_nil, implies_true, forall_const, ne_eq]
  refine hx_know_code fun hw6 hl6 hn6 => ?_
  have hS : ∀ c : ByteArray, (ω.new (.box [.str c])).wf := fun c => hwω.new (o := .box [.str c]) ⟨trivial, trivial⟩
  obtain ⟨b1, b2⟩ := bk_all s (begs s) 0 rfl
  rw [pfx_zero] at b1 b2
  rw [Nat.zero_add, pfx_all] at b2
  refine hx_range_fold (fn := 19) (caps := [.eptr [.str s] 0]) (xs := itemsF s (begs s)) (enc := encL) (fun c : ByteArray => ω.new (.box [.str c]))
    (bkOk s) bkStep ⟨#[]⟩ rfl (by rw [hP]; rfl) (fun _ _ h => by rw [hr] at h; cases h) (by rw [hP]; exact lines_iter s (by omega)) rfl
    (fun c => rfl) (fun c c' => rfl) hS hl6 b1 (fun _ => rfl) (by rw [hnt]; decide) ?_ ?_
  · rintro c ⟨a, ln⟩ ρ ⟨j, hj, rfl, hx⟩ hle hτ hgl M' hP' hnt2 hr' hnx' hwf' hlt'
    injection hx with e1 e2
    subst e1
    subst e2
    rw [bkStep_at s j hj]
    simp only [St.next_new, hnx2, Nat.add_assoc, Nat.reduceAdd] at hle hl6 ⊢
    obtain ⟨k1, k2⟩ := pfx_step s j hj
    have k3 := pfx_size s j hj
    have k4 : ((s.extract 0 ((begs s).getD j 0)).size : Int) = ((begs s).getD j 0 : Int) := by rw [k3]
    have n1 : ¬ ρ.next < σ.next + 5 := by omega
    have k5 : (pfx s j).size ≤ s.size := by unfold pfx; rw [ByteArray.size_extract]; omega
    have k6 : (lnA s ((begs s).getD j 0)).size ≤ s.size := by unfold lnA; rw [ByteArray.size_extract]; omega
    have k7 : (pfx s j).size + (⟨#[10]⟩ : ByteArray).size ≤ 9223372036854775807 := by
      have : (⟨#[10]⟩ : ByteArray).size = 1 := rfl
      omega
    have k8 : (s.extract 0 ((begs s).getD j 0)).size + (lnA s ((begs s).getD j 0)).size ≤ 9223372036854775807 := by
      rw [ByteArray.size_extract]; omega
    simp only [encL, putsE]
    by_cases hj0 : 0 < (begs s).getD j 0
    · have hd2 : decide ((((begs s).getD j 0 : Nat) : Int) > 0) = true := decide_eq_true (by omega)
      rw [if_pos hj0] at k1
      refine hgo_sound 60 ?_
      simp -implicitDefEqProofs (maxSteps := 1000000) only [simpS, ↓condJ_true, ↓condJ_false, ↓reduceIte, Nat.reduceEqDiff, Nat.reduceLT, Nat.reduceLeDiff, reduceCtorEq, Nat.reduceAdd, Nat.reduceSub, bindG_none, addG_none, hgrpK_none, nestK_none, hgrpK_guarded, Option.map_none, beq_self_eq_true, bne_self_eq_false, Option.map_some, if_true, if_false, List.getD_cons_zero, List.getD_cons_succ, List.length_cons, List.length_nil, List.mem_cons, List.not_mem_nil, List.mem_append, List.nil_append, List.cons_append, List.append_nil, List.take_succ_cons, List.take_zero, List.drop_succ_cons, List.drop_zero, List.set_cons_zero, List.set_cons_succ, List.map_cons, List.map_nil, implies_true, forall_const, ne_eq, hle, n1, hnx2]
      refine hgo_sound 60 ?_
      simp -implicitDefEqProofs (maxSteps := 1000000) only [simpS, ↓condJ_true, ↓condJ_false, ↓reduceIte, Nat.reduceEqDiff, Nat.reduceLT, Nat.reduceLeDiff, reduceCtorEq, Nat.reduceAdd, Nat.reduceSub, bindG_none, addG_none, hgrpK_none, nestK_none, hgrpK_guarded, Option.map_none, beq_self_eq_true, bne_self_eq_false, Option.map_some, if_true, if_false, List.getD_cons_zero, List.getD_cons_succ, List.length_cons, List.length_nil, List.mem_cons, List.not_mem_nil, List.mem_append, List.nil_append, List.cons_append, List.append_nil, List.take_succ_cons, List.take_zero, List.drop_succ_cons, List.drop_zero, List.set_cons_zero, List.set_cons_succ, List.map_cons, List.map_nil, implies_true, forall_const, ne_eq, hle, n1, hnx2, hd2, k1, k2, k4, k7, k8]
      exact round_next rfl (by simp only [St.next_new, hnx2]) (hS _) hl6 hτ hle (Ext.refl ρ)
    · have hd2 : decide ((((begs s).getD j 0 : Nat) : Int) > 0) = false := decide_eq_false (by omega)
      rw [if_neg hj0] at k1
      refine hgo_sound 60 ?_
      simp -implicitDefEqProofs (maxSteps := 1000000) only [simpS, ↓condJ_true, ↓condJ_false, ↓reduceIte, Nat.reduceEqDiff, Nat.reduceLT, Nat.reduceLeDiff, reduceCtorEq, Nat.reduceAdd, Nat.reduceSub, bindG_none, addG_none, hgrpK_none, nestK_none, hgrpK_guarded, Option.map_none, beq_self_eq_true, bne_self_eq_false, Option.map_some, if_true, if_false, List.getD_cons_zero, List.getD_cons_succ, List.length_cons, List.length_nil, List.mem_cons, List.not_mem_nil, List.mem_append, List.nil_append, List.cons_append, List.append_nil, List.take_succ_cons, List.take_zero, List.drop_succ_cons, List.drop_zero, List.set_cons_zero, List.set_cons_succ, List.map_cons, List.map_nil, implies_true, forall_const, ne_eq, hle, n1, hnx2]
      rw [k1]
      refine hgo_sound 60 ?_
      simp -implicitDefEqProofs (maxSteps := 1000000) only [simpS, ↓condJ_true, ↓condJ_false, ↓reduceIte, Nat.reduceEqDiff, Nat.reduceLT, Nat.reduceLeDiff, reduceCtorEq, Nat.reduceAdd, Nat.reduceSub, bindG_none, addG_none, hgrpK_none, nestK_none, hgrpK_guarded, Option.map_none, beq_self_eq_true, bne_self_eq_false, Option.map_some, if_true, if_false, List.getD_cons_zero, List.getD_cons_succ, List.length_cons, List.length_nil, List.mem_cons, List.not_mem_nil, List.mem_append, List.nil_append, List.cons_append, List.append_nil, List.take_succ_cons, List.take_zero, List.drop_succ_cons, List.drop_zero, List.set_cons_zero, List.set_cons_succ, List.map_cons, List.map_nil, implies_true, forall_const, ne_eq, hle, n1, hnx2, hd2, k2, k4, k8]
      exact round_next rfl (by simp only [St.next_new, hnx2]) (hS _) hl6 hτ hle (Ext.refl ρ)
  · rw [b2]
    refine hx_inBlock ?_
    refine hgo_sound 60 ?_
    simp -implicitDefEqProofs (maxSteps := 1000000) only [simpS, ↓condJ_true, ↓condJ_false, ↓reduceIte, Nat.reduceEqDiff, Nat.reduceLT, Nat.reduceLeDiff, reduceCtorEq, Nat.reduceAdd, Nat.reduceSub, bindG_none, addG_none, hgrpK_none, nestK_none, hgrpK_guarded, Option.map_none, beq_self_eq_true, bne_self_eq_false, Option.map_some, if_true, if_false, List.getD_cons_zero, List.getD_cons_succ, List.length_cons, List.length_nil, List.mem_cons, List.not_mem_nil, List.mem_append, List.nil_append, List.cons_append, List.append_nil, List.take_succ_cons, List.take_zero, List.drop_succ_cons, List.drop_zero, List.set_cons_zero, List.set_cons_succ, List.map_cons, List.map_nil, implies_true, forall_const, ne_eq]
    refine hx_call (f := .fn 14) rfl (by rw [hP]; exact hcallD_func (placeN_calls 0 _)) ?_
    rintro _ σ2 ⟨rfl, h⟩
    subst σ2
    refine hgo_sound 60 ?_
    simp -implicitDefEqProofs (maxSteps := 1000000) only [simpS, ↓condJ_true, ↓condJ_false, ↓reduceIte, Nat.reduceEqDiff, Nat.reduceLT, Nat.reduceLeDiff, reduceCtorEq, Nat.reduceAdd, Nat.reduceSub, bindG_none, addG_none, hgrpK_none, nestK_none, hgrpK_guarded, Option.map_none, beq_self_eq_true, bne_self_eq_false, Option.map_some, if_true, if_false, List.getD_cons_zero, List.getD_cons_succ, List.length_cons, List.length_nil, List.mem_cons, List.not_mem_nil, List.mem_append, List.nil_append, List.cons_append, List.append_nil, List.take_succ_cons, List.take_zero, List.drop_succ_cons, List.drop_zero, List.set_cons_zero, List.set_cons_succ, List.map_cons, List.map_nil, implies_true, forall_const, ne_eq]
    refine hx_call (f := .fn 16) rfl (by rw [hP]; exact hcallD_func (atN_calls _)) ?_
    rintro _ σ2 ⟨rfl, h⟩
    subst σ2
    refine hgo_sound 60 ?_
    simp -implicitDefEqProofs (maxSteps := 1000000) only [simpS, ↓condJ_true, ↓condJ_false, ↓reduceIte, Nat.reduceEqDiff, Nat.reduceLT, Nat.reduceLeDiff, reduceCtorEq, Nat.reduceAdd, Nat.reduceSub, bindG_none, addG_none, hgrpK_none, nestK_none, hgrpK_guarded, Option.map_none, beq_self_eq_true, bne_self_eq_false, Option.map_some, if_true, if_false, List.getD_cons_zero, List.getD_cons_succ, List.length_cons, List.length_nil, List.mem_cons, List.not_mem_nil, List.mem_append, List.nil_append, List.cons_append, List.append_nil, List.take_succ_cons, List.take_zero, List.drop_succ_cons, List.drop_zero, List.set_cons_zero, List.set_cons_succ, List.map_cons, List.map_nil, implies_true, forall_const, ne_eq]
    refine hx_call (f := .fn 11) rfl (by rw [hP]; exact hcallD_func (lineN_calls _)) ?_
    rintro _ σ2 ⟨rfl, h⟩
    subst σ2
    refine hgo_sound 90 ?_
    simp -implicitDefEqProofs (maxSteps := 1000000) only [simpS, ↓condJ_true, ↓condJ_false, ↓reduceIte, Nat.reduceEqDiff, Nat.reduceLT, Nat.reduceLeDiff, reduceCtorEq, Nat.reduceAdd, Nat.reduceSub, bindG_none, addG_none, hgrpK_none, nestK_none, hgrpK_guarded, Option.map_none, beq_self_eq_true, bne_self_eq_false, Option.map_some, if_true, if_false, List.getD_cons_zero, List.getD_cons_succ, List.length_cons, List.length_nil, List.mem_cons, List.not_mem_nil, List.mem_append, List.nil_append, List.cons_append, List.append_nil, List.take_succ_cons, List.take_zero, List.drop_succ_cons, List.drop_zero, List.set_cons_zero, List.set_cons_succ, List.map_cons, List.map_nil, implies_true, forall_const, ne_eq, hnx2]
    refine hx_call (f := .fn 12) rfl (by rw [hP]; exact hcallD_func (isR_calls _)) ?_
    rintro _ σ2 ⟨rfl, h⟩
    subst σ2
    refine hgo_sound 60 ?_
    simp -implicitDefEqProofs (maxSteps := 1000000) only [simpS, ↓condJ_true, ↓condJ_false, ↓reduceIte, Nat.reduceEqDiff, Nat.reduceLT, Nat.reduceLeDiff, reduceCtorEq, Nat.reduceAdd, Nat.reduceSub, bindG_none, addG_none, hgrpK_none, nestK_none, hgrpK_guarded, Option.map_none, beq_self_eq_true, bne_self_eq_false, Option.map_some, if_true, if_false, List.getD_cons_zero, List.getD_cons_succ, List.length_cons, List.length_nil, List.mem_cons, List.not_mem_nil, List.mem_append, List.nil_append, List.cons_append, List.append_nil, List.take_succ_cons, List.take_zero, List.drop_succ_cons, List.drop_zero, List.set_cons_zero, List.set_cons_succ, List.map_cons, List.map_nil, implies_true, forall_const, ne_eq]
    refine hx_call (f := .fn 12) rfl (by rw [hP]; exact hcallD_func (isR_calls _)) ?_
    rintro _ σ2 ⟨rfl, h⟩
    subst σ2
    refine hgo_sound 60 ?_
    simp -implicitDefEqProofs (maxSteps := 1000000) only [simpS, ↓condJ_true, ↓condJ_false, ↓reduceIte, Nat.reduceEqDiff, Nat.reduceLT, Nat.reduceLeDiff, reduceCtorEq, Nat.reduceAdd, Nat.reduceSub, bindG_none, addG_none, hgrpK_none, nestK_none, hgrpK_guarded, Option.map_none, beq_self_eq_true, bne_self_eq_false, Option.map_some, if_true, if_false, List.getD_cons_zero, List.getD_cons_succ, List.length_cons, List.length_nil, List.mem_cons, List.not_mem_nil, List.mem_append, List.nil_append, List.cons_append, List.append_nil, List.take_succ_cons, List.take_zero, List.drop_succ_cons, List.drop_zero, List.set_cons_zero, List.set_cons_succ, List.map_cons, List.map_nil, implies_true, forall_const, ne_eq]
    refine hx_call (f := .fn 12) rfl (by rw [hP]; exact hcallD_func (isR_calls _)) ?_
    rintro _ σ2 ⟨rfl, h⟩
    subst σ2
    refine hgo_sound 60 ?_
    simp -implicitDefEqProofs (maxSteps := 1000000) only [simpS, ↓condJ_true, ↓condJ_false, ↓reduceIte, Nat.reduceEqDiff, Nat.reduceLT, Nat.reduceLeDiff, reduceCtorEq, Nat.reduceAdd, Nat.reduceSub, bindG_none, addG_none, hgrpK_none, nestK_none, hgrpK_guarded, Option.map_none, beq_self_eq_true, bne_self_eq_false, Option.map_some, if_true, if_false, List.getD_cons_zero, List.getD_cons_succ, List.length_cons, List.length_nil, List.mem_cons, List.not_mem_nil, List.mem_append, List.nil_append, List.cons_append, List.append_nil, List.take_succ_cons, List.take_zero, List.drop_succ_cons, List.drop_zero, List.set_cons_zero, List.set_cons_succ, List.map_cons, List.map_nil, implies_true, forall_const, ne_eq]
    refine hx_call (f := .fn 13) rfl (by rw [hP]; exact hcallD_func (lenN_calls _)) ?_
    rintro _ σ2 ⟨rfl, h⟩
    subst σ2
    refine hgo_sound 60 ?_
    simp -implicitDefEqProofs (maxSteps := 1000000) only [simpS, ↓condJ_true, ↓condJ_false, ↓reduceIte, Nat.reduceEqDiff, Nat.reduceLT, Nat.reduceLeDiff, reduceCtorEq, Nat.reduceAdd, Nat.reduceSub, bindG_none, addG_none, hgrpK_none, nestK_none, hgrpK_guarded, Option.map_none, beq_self_eq_true, bne_self_eq_false, Option.map_some, if_true, if_false, List.getD_cons_zero, List.getD_cons_succ, List.length_cons, List.length_nil, List.mem_cons, List.not_mem_nil, List.mem_append, List.nil_append, List.cons_append, List.append_nil, List.take_succ_cons, List.take_zero, List.drop_succ_cons, List.drop_zero, List.set_cons_zero, List.set_cons_succ, List.map_cons, List.map_nil, implies_true, forall_const, ne_eq]
    refine hx_call (f := .fn 9) rfl (by rw [hP]; exact hcallD_func (madeN_calls _)) ?_
    rintro _ σ2 ⟨rfl, h⟩
    subst σ2
    have hz : (IntKind.i64.wrap (0 + 0) == 0) = true := rfl
    refine hgo_sound 60 ?_
    simp -implicitDefEqProofs (maxSteps := 1000000) only [simpS, ↓condJ_true, ↓condJ_false, ↓reduceIte, Nat.reduceEqDiff, Nat.reduceLT, Nat.reduceLeDiff, reduceCtorEq, Nat.reduceAdd, Nat.reduceSub, bindG_none, addG_none, hgrpK_none, nestK_none, hgrpK_guarded, Option.map_none, beq_self_eq_true, bne_self_eq_false, Option.map_some, if_true, if_false, List.getD_cons_zero, List.getD_cons_succ, List.length_cons, List.length_nil, List.mem_cons, List.not_mem_nil, List.mem_append, List.nil_append, List.cons_append, List.append_nil, List.take_succ_cons, List.take_zero, List.drop_succ_cons, List.drop_zero, List.set_cons_zero, List.set_cons_succ, List.map_cons, List.map_nil, implies_true, forall_const, ne_eq, hz, hnx2, hrω]
    have E9 : Ext σ ω := ((Ext.refl σ).new _).trans Er
    exact fpost_pure (σ0 := σ) (.inr rfl) (by rw [hnx]; exact Nat.le_refl _) hwf ((((E9.put (Nat.le_refl _) _).new _).bump).sub hwf) (resD_cell (d := .bool true) rfl (by simp only [St.obj_new, St.obj_put, St.next_put, St.obj_bump, hnx2, hm0, if_false, if_true]) resD_nil) ⟨by simp, trivial⟩ trivial rfl

end Go.Hl
