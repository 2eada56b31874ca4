/-
  Layer 1: the law TextLines.
-/
import Derived.Test.YtldfojmjjidadaaTxJ
import Derived.Test.YtldfojmjjidadaaHlZ
set_option linter.unusedSectionVars false
set_option linter.unusedVariables false
set_option linter.unusedSimpArgs false
set_option maxRecDepth 100000
namespace Go.Hl
open Go Go.Proofs Go.RowKit

def tabD (s : ByteArray) (k : Nat) (d : Bool) : Ob := if d then tabO s k 1 0 1 (begs s) else tabO s k 0 0 0 []
def tkD (s : ByteArray) (d : Bool) : Ob := if d then tkO (begs s) else tkO []

def lnS (σ : St) (s : ByteArray) (g : Nat) (st : Int) (r d : Bool) (k : Int) : St :=
  ((((((σ.new (.box [.int .i64 st])).new (.box [.bool r])).new (.vec g 2 (encLs (itemsF s (begs s))))).new (.box [.vec (σ.next + 2) g])).new (tabD s (σ.next + 5) d)).new (tkD s d)).new (.box [.int .i64 k])
theorem lnS_next (σ : St) (s : ByteArray) (g : Nat) (st : Int) (r d : Bool) (k : Int) : (lnS σ s g st r d k).next = σ.next + 7 := rfl
theorem lnS_0 (σ : St) (s : ByteArray) (g : Nat) (st : Int) (r d : Bool) (k : Int) : (lnS σ s g st r d k).obj σ.next = some (.bx none [.int .i64 st]) := by simp only [lnS, simpS, ↓condJ_true, ↓condJ_false, ↓reduceIte, Nat.reduceEqDiff, Nat.reduceLT, Nat.reduceLeDiff, reduceCtorEq, Nat.reduceAdd, Nat.reduceSub, bindG_none, addG_none, hgrpK_none, nestK_none, hgrpK_guarded, Option.map_none, beq_self_eq_true, bne_self_eq_false, Option.map_some, if_true, if_false, List.getD_cons_zero, List.getD_cons_succ, List.length_cons, List.length_nil, List.mem_cons, List.not_mem_nil, List.mem_append, List.nil_append, List.cons_append, List.append_nil, List.take_succ_cons, List.take_zero, List.drop_succ_cons, List.drop_zero, List.set_cons_zero, List.set_cons_succ, List.map_cons, List.map_nil, implies_true, forall_const, ne_eq]
theorem lnS_1 (σ : St) (s : ByteArray) (g : Nat) (st : Int) (r d : Bool) (k : Int) : (lnS σ s g st r d k).obj (σ.next + 1) = some (.bx none [.bool r]) := by simp only [lnS, simpS, ↓condJ_true, ↓condJ_false, ↓reduceIte, Nat.reduceEqDiff, Nat.reduceLT, Nat.reduceLeDiff, reduceCtorEq, Nat.reduceAdd, Nat.reduceSub, bindG_none, addG_none, hgrpK_none, nestK_none, hgrpK_guarded, Option.map_none, beq_self_eq_true, bne_self_eq_false, Option.map_some, if_true, if_false, List.getD_cons_zero, List.getD_cons_succ, List.length_cons, List.length_nil, List.mem_cons, List.not_mem_nil, List.mem_append, List.nil_append, List.cons_append, List.append_nil, List.take_succ_cons, List.take_zero, List.drop_succ_cons, List.drop_zero, List.set_cons_zero, List.set_cons_succ, List.map_cons, List.map_nil, implies_true, forall_const, ne_eq]
theorem lnS_2 (σ : St) (s : ByteArray) (g : Nat) (st : Int) (r d : Bool) (k : Int) : (lnS σ s g st r d k).obj (σ.next + 2) = some (.vec g 2 (encLs (itemsF s (begs s)))) := by simp only [lnS, simpS, ↓condJ_true, ↓condJ_false, ↓reduceIte, Nat.reduceEqDiff, Nat.reduceLT, Nat.reduceLeDiff, reduceCtorEq, Nat.reduceAdd, Nat.reduceSub, bindG_none, addG_none, hgrpK_none, nestK_none, hgrpK_guarded, Option.map_none, beq_self_eq_true, bne_self_eq_false, Option.map_some, if_true, if_false, List.getD_cons_zero, List.getD_cons_succ, List.length_cons, List.length_nil, List.mem_cons, List.not_mem_nil, List.mem_append, List.nil_append, List.cons_append, List.append_nil, List.take_succ_cons, List.take_zero, List.drop_succ_cons, List.drop_zero, List.set_cons_zero, List.set_cons_succ, List.map_cons, List.map_nil, implies_true, forall_const, ne_eq]
theorem lnS_3 (σ : St) (s : ByteArray) (g : Nat) (st : Int) (r d : Bool) (k : Int) : (lnS σ s g st r d k).obj (σ.next + 3) = some (.bx none [.vec (σ.next + 2) g]) := by simp only [lnS, simpS, ↓condJ_true, ↓condJ_false, ↓reduceIte, Nat.reduceEqDiff, Nat.reduceLT, Nat.reduceLeDiff, reduceCtorEq, Nat.reduceAdd, Nat.reduceSub, bindG_none, addG_none, hgrpK_none, nestK_none, hgrpK_guarded, Option.map_none, beq_self_eq_true, bne_self_eq_false, Option.map_some, if_true, if_false, List.getD_cons_zero, List.getD_cons_succ, List.length_cons, List.length_nil, List.mem_cons, List.not_mem_nil, List.mem_append, List.nil_append, List.cons_append, List.append_nil, List.take_succ_cons, List.take_zero, List.drop_succ_cons, List.drop_zero, List.set_cons_zero, List.set_cons_succ, List.map_cons, List.map_nil, implies_true, forall_const, ne_eq]
theorem lnS_4 (σ : St) (s : ByteArray) (g : Nat) (st : Int) (r d : Bool) (k : Int) : (lnS σ s g st r d k).obj (σ.next + 4) = some (tabD s (σ.next + 5) d) := by simp only [lnS, simpS, ↓condJ_true, ↓condJ_false, ↓reduceIte, Nat.reduceEqDiff, Nat.reduceLT, Nat.reduceLeDiff, reduceCtorEq, Nat.reduceAdd, Nat.reduceSub, bindG_none, addG_none, hgrpK_none, nestK_none, hgrpK_guarded, Option.map_none, beq_self_eq_true, bne_self_eq_false, Option.map_some, if_true, if_false, List.getD_cons_zero, List.getD_cons_succ, List.length_cons, List.length_nil, List.mem_cons, List.not_mem_nil, List.mem_append, List.nil_append, List.cons_append, List.append_nil, List.take_succ_cons, List.take_zero, List.drop_succ_cons, List.drop_zero, List.set_cons_zero, List.set_cons_succ, List.map_cons, List.map_nil, implies_true, forall_const, ne_eq]
theorem lnS_5 (σ : St) (s : ByteArray) (g : Nat) (st : Int) (r d : Bool) (k : Int) : (lnS σ s g st r d k).obj (σ.next + 5) = some (tkD s d) := by simp only [lnS, simpS, ↓condJ_true, ↓condJ_false, ↓reduceIte, Nat.reduceEqDiff, Nat.reduceLT, Nat.reduceLeDiff, reduceCtorEq, Nat.reduceAdd, Nat.reduceSub, bindG_none, addG_none, hgrpK_none, nestK_none, hgrpK_guarded, Option.map_none, beq_self_eq_true, bne_self_eq_false, Option.map_some, if_true, if_false, List.getD_cons_zero, List.getD_cons_succ, List.length_cons, List.length_nil, List.mem_cons, List.not_mem_nil, List.mem_append, List.nil_append, List.cons_append, List.append_nil, List.take_succ_cons, List.take_zero, List.drop_succ_cons, List.drop_zero, List.set_cons_zero, List.set_cons_succ, List.map_cons, List.map_nil, implies_true, forall_const, ne_eq]
theorem lnS_6 (σ : St) (s : ByteArray) (g : Nat) (st : Int) (r d : Bool) (k : Int) : (lnS σ s g st r d k).obj (σ.next + 6) = some (.bx none [.int .i64 k]) := by simp only [lnS, simpS, ↓condJ_true, ↓condJ_false, ↓reduceIte, Nat.reduceEqDiff, Nat.reduceLT, Nat.reduceLeDiff, reduceCtorEq, Nat.reduceAdd, Nat.reduceSub, bindG_none, addG_none, hgrpK_none, nestK_none, hgrpK_guarded, Option.map_none, beq_self_eq_true, bne_self_eq_false, Option.map_some, if_true, if_false, List.getD_cons_zero, List.getD_cons_succ, List.length_cons, List.length_nil, List.mem_cons, List.not_mem_nil, List.mem_append, List.nil_append, List.cons_append, List.append_nil, List.take_succ_cons, List.take_zero, List.drop_succ_cons, List.drop_zero, List.set_cons_zero, List.set_cons_succ, List.map_cons, List.map_nil, implies_true, forall_const, ne_eq]
theorem lnS_ext (σ : St) (s : ByteArray) (g : Nat) (st : Int) (r d : Bool) (k : Int) : Ext σ (lnS σ s g st r d k) := ((((((((Ext.refl σ).new _).new _).new _).new _).new _).new _).new _)
theorem lnS_tbP (σ : St) (s : ByteArray) (g : Nat) (st : Int) (r d : Bool) (k : Int) : TbP (lnS σ s g st r d k) (σ.next + 4) (σ.next + 5) s := by
  refine ⟨by omega, ?_⟩
  cases d
  · exact .inl ⟨lnS_4 .., lnS_5 ..⟩
  · exact .inr ⟨lnS_4 .., lnS_5 ..⟩
theorem lnS_tb (σ : St) (s : ByteArray) (g : Nat) (st : Int) (r d : Bool) (k : Int) : tbS (lnS σ s g st r d k) (σ.next + 4) (σ.next + 5) s = lnS σ s g st r true k := by
  refine St.ext' (fun q => ?_) rfl rfl
  simp only [tbS, lnS, St.obj_put, St.obj_new, St.next_new, Nat.add_assoc, Nat.reduceAdd, tabD, tkD, if_true]
  by_cases q1 : q = σ.next + 4
  · simp [q1]
  · by_cases q2 : q = σ.next + 5
    · simp [q2]
    · simp [q1, q2]
theorem lnS_wf {σ : St} (hw : σ.wf) (s : ByteArray) (g : Nat) (st : Int) (r d : Bool) (k : Int) : (lnS σ s g st r d k).wf := by
  refine (St.wf.new2 ((((hw.box (cs := [.int .i64 st]) ⟨trivial, trivial⟩).box (cs := [.bool r]) ⟨trivial, trivial⟩).new (o := .vec g 2 (encLs (itemsF s (begs s)))) (encLs_lt _ _)).box (cs := [.vec (σ.next + 2) g]) ⟨by simp only [D.lt, St.next_new]; omega, trivial⟩) ?_ ?_).box (cs := [.int .i64 k]) ⟨trivial, trivial⟩
  · cases d
    · exact ⟨trivial, trivial, trivial, trivial, trivial, ⟨by simp only [Own.lt, St.next_new]; omega, encB_lt _ _⟩, trivial⟩
    · exact ⟨trivial, trivial, trivial, trivial, trivial, ⟨by simp only [Own.lt, St.next_new]; omega, encB_lt _ _⟩, trivial⟩
  · cases d <;> trivial
theorem tbP_bump {σ : St} {id k : Nat} {s : ByteArray} (H : TbP σ id k s) : TbP σ.bump id k s := H
theorem tbS_bump {σ : St} {id k : Nat} {s : ByteArray} : tbS σ.bump id k s = (tbS σ id k s).bump := rfl

theorem lnS_put6 (σ : St) (s : ByteArray) (g : Nat) (st : Int) (r d : Bool) (k k' : Int) : (lnS σ s g st r d k).put (σ.next + 6) (.bx none [.int .i64 k']) = lnS σ s g st r d k' := by simp only [lnS, simpS, ↓condJ_true, ↓condJ_false, ↓reduceIte, Nat.reduceEqDiff, Nat.reduceLT, Nat.reduceLeDiff, reduceCtorEq, Nat.reduceAdd, Nat.reduceSub, bindG_none, addG_none, hgrpK_none, nestK_none, hgrpK_guarded, Option.map_none, beq_self_eq_true, bne_self_eq_false, Option.map_some, if_true, if_false, List.getD_cons_zero, List.getD_cons_succ, List.length_cons, List.length_nil, List.mem_cons, List.not_mem_nil, List.mem_append, List.nil_append, List.cons_append, List.append_nil, List.take_succ_cons, List.take_zero, List.drop_succ_cons, List.drop_zero, List.set_cons_zero, List.set_cons_succ, List.map_cons, List.map_nil, implies_true, forall_const, ne_eq]
theorem lnS_put1 (σ : St) (s : ByteArray) (g : Nat) (st : Int) (r d : Bool) (k : Int) (r' : Bool) : (lnS σ s g st r d k).put (σ.next + 1) (.bx none [.bool r']) = lnS σ s g st r' d k := by simp only [lnS, simpS, ↓condJ_true, ↓condJ_false, ↓reduceIte, Nat.reduceEqDiff, Nat.reduceLT, Nat.reduceLeDiff, reduceCtorEq, Nat.reduceAdd, Nat.reduceSub, bindG_none, addG_none, hgrpK_none, nestK_none, hgrpK_guarded, Option.map_none, beq_self_eq_true, bne_self_eq_false, Option.map_some, if_true, if_false, List.getD_cons_zero, List.getD_cons_succ, List.length_cons, List.length_nil, List.mem_cons, List.not_mem_nil, List.mem_append, List.nil_append, List.cons_append, List.append_nil, List.take_succ_cons, List.take_zero, List.drop_succ_cons, List.drop_zero, List.set_cons_zero, List.set_cons_succ, List.map_cons, List.map_nil, implies_true, forall_const, ne_eq]

structure LnH (M : Md) (σ : St) (s : ByteArray) : Prop where
  hP : M.P = Try.prog
  hr : M.r = none
  hnt : M.nt = h3.nt
  hnx : M.gS.next = σ.next
  hwf : σ.wf
  hs : s.size ≤ 2000

abbrev lnPost (M : Md) : HPost := FPost M.gS.next [HR.cell 6 none] (fun d x => d = D.bool true)
def linesR : HC := tlC (tlC (tlC (tlC (tlC (tlC (tlC (tlC h3.body)))))))
def linesB : HC := tlC linesR
def lnE (σ : St) (n : Int) : Env := [(1, .int .i64 n), (5, .ptr σ.next 0), (6, .ptr (σ.next + 1) 0), (7, .ptr (σ.next + 3) 0), (8, .ptr (σ.next + 4) 0), (9, .int .i64 0), (10, .ptr (σ.next + 6) 0)]

theorem ln_fin {M : Md} {σ : St} (hnx : M.gS.next = σ.next) (hwf : σ.wf) {e : Env} {σ' : St} (he : Ext σ σ') (h6 : look e 6 = .ptr (σ.next + 1) 0) (ho : σ'.obj (σ.next + 1) = some (.bx none [.bool true])) : lnPost M .ret e σ' :=
  fpost_pure (σ0 := σ) (.inr rfl) (by rw [hnx]; exact Nat.le_refl _) hwf (he.sub hwf) (ds := [.bool true]) (resD_cell (d := .bool true) h6 ho resD_nil) ⟨by decide, trivial⟩ trivial rfl

theorem items_len (s : ByteArray) (l : List Nat) : (itemsF s l).length = l.length := by simp [itemsF]
theorem items_get (s : ByteArray) (l : List Nat) (j : Nat) (h : j < l.length) : (encLs (itemsF s l)).getD j [] = [.int .i64 (l[j] : Int), .str (lnA s l[j])] := by
  simp [encLs, itemsF, List.getD, h, encL]

set_option maxHeartbeats 4000000 in
theorem linesB_ok (s : ByteArray) (g : Nat) (n st : Int) (h1 : -9223372036854775808 ≤ n) (h2 : n ≤ 9223372036854775807) (σ : St) (M : Md) (H : LnH M σ s) :
    HX M (lnPost M) [.code linesB] (lnE σ n) (lnS σ s g st false false (min st ((begs s).length : Int))).bump := by
  obtain ⟨hP, hr, hnt, hnx, hwf, hs⟩ := H
  have hnt' : M.nt = 136 := hnt
  have hbl := begs_len s
  simp only [linesB, linesR, h3, tlC, lnE]
  have H0 := tbP_bump (lnS_tbP σ s g st false false (min st ((begs s).length : Int)))
  have hl := line_calls (by omega) h1 h2 _ H0
  rw [tbS_bump, lnS_tb] at hl
  have hle : ∀ d, TbP (lnS σ s g st false d (min st ((begs s).length : Int))).bump (σ.next + 4) (σ.next + 5) s := fun d => tbP_bump (lnS_tbP ..)
  have hlen : ∀ d, HCalls Try.prog 13 [.ptr (σ.next + 4) 0] (lnS σ s g st false d (min st ((begs s).length : Int))).bump (fun d' σ' => d' = .int .i64 ((begs s).length : Int) ∧ σ' = (lnS σ s g st false true (min st ((begs s).length : Int))).bump) := fun d => by
    have := len_calls (by omega) _ (hle d)
    rwa [tbS_bump, lnS_tb] at this
  have hk : (min st ((begs s).length : Int) == if ((begs s).length : Int) < st then ((begs s).length : Int) else st) = true := by
    simp only [beq_iff_eq]
    split <;> omega
  refine hgo_sound 60 ?_
  simp -implicitDefEqProofs (maxSteps := 1000000) only [simpS, ↓condJ_true, ↓condJ_false, ↓reduceIte, Nat.reduceEqDiff, Nat.reduceLT, Nat.reduceLeDiff, reduceCtorEq, Nat.reduceAdd, Nat.reduceSub, bindG_none, addG_none, hgrpK_none, nestK_none, hgrpK_guarded, Option.map_none, beq_self_eq_true, bne_self_eq_false, Option.map_some, if_true, if_false, List.getD_cons_zero, List.getD_cons_succ, List.length_cons, List.length_nil, List.mem_cons, List.not_mem_nil, List.mem_append, List.nil_append, List.cons_append, List.append_nil, List.take_succ_cons, List.take_zero, List.drop_succ_cons, List.drop_zero, List.set_cons_zero, List.set_cons_succ, List.map_cons, List.map_nil, implies_true, forall_const, ne_eq]
  by_cases hn : 0 ≤ n ∧ n < (begs s).length
  · obtain ⟨m, rfl⟩ : ∃ m : Nat, n = (m : Int) := ⟨n.toNat, by omega⟩
    have hml : m < (begs s).length := by omega
    have hd1 : decide ((m : Int) < 0) = false := by simp
    have hd2 : decide ((m : Int) ≥ ((begs s).length : Int)) = false := decide_eq_false (by omega)
    have hg := items_get s (begs s) m hml
    have hlt := hn.2
    unfold lineD at hl
    rw [if_pos hn, if_neg (by omega), Int.toNat_natCast, getD_el hml] at hl
    refine hx_call (f := .fn 11) rfl (by rw [hP]; exact hcallD_func (hl)) ?_
    rintro _ σ2 ⟨rfl, rfl⟩
    refine hgo_sound 90 ?_
    simp -implicitDefEqProofs (maxSteps := 1000000) only [simpS, ↓condJ_true, ↓condJ_false, ↓reduceIte, Nat.reduceEqDiff, Nat.reduceLT, Nat.reduceLeDiff, reduceCtorEq, Nat.reduceAdd, Nat.reduceSub, bindG_none, addG_none, hgrpK_none, nestK_none, hgrpK_guarded, Option.map_none, beq_self_eq_true, bne_self_eq_false, Option.map_some, if_true, if_false, List.getD_cons_zero, List.getD_cons_succ, List.length_cons, List.length_nil, List.mem_cons, List.not_mem_nil, List.mem_append, List.nil_append, List.cons_append, List.append_nil, List.take_succ_cons, List.take_zero, List.drop_succ_cons, List.drop_zero, List.set_cons_zero, List.set_cons_succ, List.map_cons, List.map_nil, implies_true, forall_const, ne_eq, hd1, hd2, lnS_0, lnS_1, lnS_2, lnS_3, lnS_4, lnS_5, lnS_6, lnS_next, lnS_put1, encLs_length, items_len, hk, Int.toNat_natCast, Int.natCast_nonneg, bne_self_eq_false, beq_self_eq_true]
    refine hx_drawgo 1 ?_
    simp -implicitDefEqProofs (maxSteps := 3000000) only [drawS, List.map_cons, List.map_nil, List.getElem?_cons_zero, List.getElem?_cons_succ, List.getElem?_nil, simpS, ↓condJ_true, ↓condJ_false, ↓reduceIte, Nat.reduceEqDiff, Nat.reduceLT, Nat.reduceLeDiff, reduceCtorEq, Nat.reduceAdd, Nat.reduceSub, bindG_none, addG_none, hgrpK_none, nestK_none, hgrpK_guarded, Option.map_none, beq_self_eq_true, bne_self_eq_false, Option.map_some, if_true, if_false, List.getD_cons_zero, List.getD_cons_succ, List.length_cons, List.length_nil, List.mem_cons, List.not_mem_nil, List.mem_append, List.nil_append, List.cons_append, List.append_nil, List.take_succ_cons, List.take_zero, List.drop_succ_cons, List.drop_zero, List.set_cons_zero, List.set_cons_succ, List.map_cons, List.map_nil, implies_true, forall_const, ne_eq, hnt', hg, hlt, hml, lnS_0, lnS_1, lnS_2, lnS_3, lnS_4, lnS_5, lnS_6, lnS_next, lnS_put1, encLs_length, items_len, hk, Int.toNat_natCast, Int.natCast_nonneg, bne_self_eq_false, beq_self_eq_true]
    refine hd_call (i := 13) (f := .fn 13) (by simp -implicitDefEqProofs (maxSteps := 3000000) only [drawS, List.map_cons, List.map_nil, List.getElem?_cons_zero, List.getElem?_cons_succ, List.getElem?_nil, simpS, ↓condJ_true, ↓condJ_false, ↓reduceIte, Nat.reduceEqDiff, Nat.reduceLT, Nat.reduceLeDiff, reduceCtorEq, Nat.reduceAdd, Nat.reduceSub, bindG_none, addG_none, hgrpK_none, nestK_none, hgrpK_guarded, Option.map_none, beq_self_eq_true, bne_self_eq_false, Option.map_some, if_true, if_false, List.getD_cons_zero, List.getD_cons_succ, List.length_cons, List.length_nil, List.mem_cons, List.not_mem_nil, List.mem_append, List.nil_append, List.cons_append, List.append_nil, List.take_succ_cons, List.take_zero, List.drop_succ_cons, List.drop_zero, List.set_cons_zero, List.set_cons_succ, List.map_cons, List.map_nil, implies_true, forall_const, ne_eq, hnt', hg, hlt, hml, lnS_0, lnS_1, lnS_2, lnS_3, lnS_4, lnS_5, lnS_6, lnS_next, lnS_put1, encLs_length, items_len, hk, Int.toNat_natCast, Int.natCast_nonneg, bne_self_eq_false, beq_self_eq_true]) (by rfl) (by rfl) rfl (by rfl) (by rw [hP]; exact hcallD_func (hlen true)) ?_
    rintro _ σ2 ⟨rfl, rfl⟩
    refine hdgo_sound 1 ?_
    simp -implicitDefEqProofs (maxSteps := 3000000) only [drawS, List.map_cons, List.map_nil, List.getElem?_cons_zero, List.getElem?_cons_succ, List.getElem?_nil, simpS, ↓condJ_true, ↓condJ_false, ↓reduceIte, Nat.reduceEqDiff, Nat.reduceLT, Nat.reduceLeDiff, reduceCtorEq, Nat.reduceAdd, Nat.reduceSub, bindG_none, addG_none, hgrpK_none, nestK_none, hgrpK_guarded, Option.map_none, beq_self_eq_true, bne_self_eq_false, Option.map_some, if_true, if_false, List.getD_cons_zero, List.getD_cons_succ, List.length_cons, List.length_nil, List.mem_cons, List.not_mem_nil, List.mem_append, List.nil_append, List.cons_append, List.append_nil, List.take_succ_cons, List.take_zero, List.drop_succ_cons, List.drop_zero, List.set_cons_zero, List.set_cons_succ, List.map_cons, List.map_nil, implies_true, forall_const, ne_eq, hnt', hg, hlt, hml, lnS_0, lnS_1, lnS_2, lnS_3, lnS_4, lnS_5, lnS_6, lnS_next, lnS_put1, encLs_length, items_len, hk, Int.toNat_natCast, Int.natCast_nonneg, bne_self_eq_false, beq_self_eq_true]
    refine hd_call (i := 32) (f := .fn 9) (by simp -implicitDefEqProofs (maxSteps := 3000000) only [drawS, List.map_cons, List.map_nil, List.getElem?_cons_zero, List.getElem?_cons_succ, List.getElem?_nil, simpS, ↓condJ_true, ↓condJ_false, ↓reduceIte, Nat.reduceEqDiff, Nat.reduceLT, Nat.reduceLeDiff, reduceCtorEq, Nat.reduceAdd, Nat.reduceSub, bindG_none, addG_none, hgrpK_none, nestK_none, hgrpK_guarded, Option.map_none, beq_self_eq_true, bne_self_eq_false, Option.map_some, if_true, if_false, List.getD_cons_zero, List.getD_cons_succ, List.length_cons, List.length_nil, List.mem_cons, List.not_mem_nil, List.mem_append, List.nil_append, List.cons_append, List.append_nil, List.take_succ_cons, List.take_zero, List.drop_succ_cons, List.drop_zero, List.set_cons_zero, List.set_cons_succ, List.map_cons, List.map_nil, implies_true, forall_const, ne_eq, hnt', hg, hlt, hml, lnS_0, lnS_1, lnS_2, lnS_3, lnS_4, lnS_5, lnS_6, lnS_next, lnS_put1, encLs_length, items_len, hk, Int.toNat_natCast, Int.natCast_nonneg, bne_self_eq_false, beq_self_eq_true]) (by rfl) (by rfl) rfl (by rfl) (by rw [hP]; exact hcallD_func (made_calls (id := σ.next + 4) (k := σ.next + 5) (s := s) (dn := 1) (md := 1) (xs := begs s) _ (lnS_4 σ s g st false true _))) ?_
    rintro _ σ2 ⟨rfl, h⟩
    subst σ2
    refine hdgo_sound 2 ?_
    simp -implicitDefEqProofs (maxSteps := 3000000) only [drawS, List.map_cons, List.map_nil, List.getElem?_cons_zero, List.getElem?_cons_succ, List.getElem?_nil, simpS, ↓condJ_true, ↓condJ_false, ↓reduceIte, Nat.reduceEqDiff, Nat.reduceLT, Nat.reduceLeDiff, reduceCtorEq, Nat.reduceAdd, Nat.reduceSub, bindG_none, addG_none, hgrpK_none, nestK_none, hgrpK_guarded, Option.map_none, beq_self_eq_true, bne_self_eq_false, Option.map_some, if_true, if_false, List.getD_cons_zero, List.getD_cons_succ, List.length_cons, List.length_nil, List.mem_cons, List.not_mem_nil, List.mem_append, List.nil_append, List.cons_append, List.append_nil, List.take_succ_cons, List.take_zero, List.drop_succ_cons, List.drop_zero, List.set_cons_zero, List.set_cons_succ, List.map_cons, List.map_nil, implies_true, forall_const, ne_eq, hnt', hg, hlt, hml, lnS_0, lnS_1, lnS_2, lnS_3, lnS_4, lnS_5, lnS_6, lnS_next, lnS_put1, encLs_length, items_len, hk, Int.toNat_natCast, Int.natCast_nonneg, bne_self_eq_false, beq_self_eq_true]
    exact hx_ret (ln_fin hnx hwf (lnS_ext ..).bump rfl (lnS_1 ..))
  · unfold lineD at hl
    rw [if_neg hn] at hl
    by_cases hn0 : n < 0
    · have hd1 : decide (n < 0) = true := decide_eq_true hn0
      rw [if_pos hn0] at hl
      refine hx_call (f := .fn 11) rfl (by rw [hP]; exact hcallD_func (hl)) ?_
      rintro _ σ2 ⟨rfl, rfl⟩
      refine hgo_sound 90 ?_
      simp -implicitDefEqProofs (maxSteps := 1000000) only [simpS, ↓condJ_true, ↓condJ_false, ↓reduceIte, Nat.reduceEqDiff, Nat.reduceLT, Nat.reduceLeDiff, reduceCtorEq, Nat.reduceAdd, Nat.reduceSub, bindG_none, addG_none, hgrpK_none, nestK_none, hgrpK_guarded, Option.map_none, beq_self_eq_true, bne_self_eq_false, Option.map_some, if_true, if_false, List.getD_cons_zero, List.getD_cons_succ, List.length_cons, List.length_nil, List.mem_cons, List.not_mem_nil, List.mem_append, List.nil_append, List.cons_append, List.append_nil, List.take_succ_cons, List.take_zero, List.drop_succ_cons, List.drop_zero, List.set_cons_zero, List.set_cons_succ, List.map_cons, List.map_nil, implies_true, forall_const, ne_eq, hd1, lnS_0, lnS_1, lnS_2, lnS_3, lnS_4, lnS_5, lnS_6, lnS_next, lnS_put1, encLs_length, items_len, hk, Int.toNat_natCast, Int.natCast_nonneg, bne_self_eq_false, beq_self_eq_true]
      refine hx_drawgo 1 ?_
      simp -implicitDefEqProofs (maxSteps := 3000000) only [drawS, List.map_cons, List.map_nil, List.getElem?_cons_zero, List.getElem?_cons_succ, List.getElem?_nil, simpS, ↓condJ_true, ↓condJ_false, ↓reduceIte, Nat.reduceEqDiff, Nat.reduceLT, Nat.reduceLeDiff, reduceCtorEq, Nat.reduceAdd, Nat.reduceSub, bindG_none, addG_none, hgrpK_none, nestK_none, hgrpK_guarded, Option.map_none, beq_self_eq_true, bne_self_eq_false, Option.map_some, if_true, if_false, List.getD_cons_zero, List.getD_cons_succ, List.length_cons, List.length_nil, List.mem_cons, List.not_mem_nil, List.mem_append, List.nil_append, List.cons_append, List.append_nil, List.take_succ_cons, List.take_zero, List.drop_succ_cons, List.drop_zero, List.set_cons_zero, List.set_cons_succ, List.map_cons, List.map_nil, implies_true, forall_const, ne_eq, hnt', lnS_0, lnS_1, lnS_2, lnS_3, lnS_4, lnS_5, lnS_6, lnS_next, lnS_put1, encLs_length, items_len, hk, Int.toNat_natCast, Int.natCast_nonneg, bne_self_eq_false, beq_self_eq_true]
      refine hd_call (i := 1) (f := .fn 12) (by simp -implicitDefEqProofs (maxSteps := 3000000) only [drawS, List.map_cons, List.map_nil, List.getElem?_cons_zero, List.getElem?_cons_succ, List.getElem?_nil, simpS, ↓condJ_true, ↓condJ_false, ↓reduceIte, Nat.reduceEqDiff, Nat.reduceLT, Nat.reduceLeDiff, reduceCtorEq, Nat.reduceAdd, Nat.reduceSub, bindG_none, addG_none, hgrpK_none, nestK_none, hgrpK_guarded, Option.map_none, beq_self_eq_true, bne_self_eq_false, Option.map_some, if_true, if_false, List.getD_cons_zero, List.getD_cons_succ, List.length_cons, List.length_nil, List.mem_cons, List.not_mem_nil, List.mem_append, List.nil_append, List.cons_append, List.append_nil, List.take_succ_cons, List.take_zero, List.drop_succ_cons, List.drop_zero, List.set_cons_zero, List.set_cons_succ, List.map_cons, List.map_nil, implies_true, forall_const, ne_eq, hnt', lnS_0, lnS_1, lnS_2, lnS_3, lnS_4, lnS_5, lnS_6, lnS_next, lnS_put1, encLs_length, items_len, hk, Int.toNat_natCast, Int.natCast_nonneg, bne_self_eq_false, beq_self_eq_true]) (by rfl) (by rfl) rfl (by rfl) (by rw [hP]; exact hcallD_func (isR_calls _)) ?_
      rintro _ σ2 ⟨rfl, h⟩
      subst σ2
      refine hdgo_sound 1 ?_
      simp -implicitDefEqProofs (maxSteps := 3000000) only [drawS, List.map_cons, List.map_nil, List.getElem?_cons_zero, List.getElem?_cons_succ, List.getElem?_nil, simpS, ↓condJ_true, ↓condJ_false, ↓reduceIte, Nat.reduceEqDiff, Nat.reduceLT, Nat.reduceLeDiff, reduceCtorEq, Nat.reduceAdd, Nat.reduceSub, bindG_none, addG_none, hgrpK_none, nestK_none, hgrpK_guarded, Option.map_none, beq_self_eq_true, bne_self_eq_false, Option.map_some, if_true, if_false, List.getD_cons_zero, List.getD_cons_succ, List.length_cons, List.length_nil, List.mem_cons, List.not_mem_nil, List.mem_append, List.nil_append, List.cons_append, List.append_nil, List.take_succ_cons, List.take_zero, List.drop_succ_cons, List.drop_zero, List.set_cons_zero, List.set_cons_succ, List.map_cons, List.map_nil, implies_true, forall_const, ne_eq, hnt', lnS_0, lnS_1, lnS_2, lnS_3, lnS_4, lnS_5, lnS_6, lnS_next, lnS_put1, encLs_length, items_len, hk, Int.toNat_natCast, Int.natCast_nonneg, bne_self_eq_false, beq_self_eq_true]
      refine hd_call (i := 8) (f := .fn 13) (by simp -implicitDefEqProofs (maxSteps := 3000000) only [drawS, List.map_cons, List.map_nil, List.getElem?_cons_zero, List.getElem?_cons_succ, List.getElem?_nil, simpS, ↓condJ_true, ↓condJ_false, ↓reduceIte, Nat.reduceEqDiff, Nat.reduceLT, Nat.reduceLeDiff, reduceCtorEq, Nat.reduceAdd, Nat.reduceSub, bindG_none, addG_none, hgrpK_none, nestK_none, hgrpK_guarded, Option.map_none, beq_self_eq_true, bne_self_eq_false, Option.map_some, if_true, if_false, List.getD_cons_zero, List.getD_cons_succ, List.length_cons, List.length_nil, List.mem_cons, List.not_mem_nil, List.mem_append, List.nil_append, List.cons_append, List.append_nil, List.take_succ_cons, List.take_zero, List.drop_succ_cons, List.drop_zero, List.set_cons_zero, List.set_cons_succ, List.map_cons, List.map_nil, implies_true, forall_const, ne_eq, hnt', lnS_0, lnS_1, lnS_2, lnS_3, lnS_4, lnS_5, lnS_6, lnS_next, lnS_put1, encLs_length, items_len, hk, Int.toNat_natCast, Int.natCast_nonneg, bne_self_eq_false, beq_self_eq_true]) (by rfl) (by rfl) rfl (by rfl) (by rw [hP]; exact hcallD_func (hlen false)) ?_
      rintro _ σ2 ⟨rfl, rfl⟩
      refine hdgo_sound 2 ?_
      simp -implicitDefEqProofs (maxSteps := 3000000) only [drawS, List.map_cons, List.map_nil, List.getElem?_cons_zero, List.getElem?_cons_succ, List.getElem?_nil, simpS, ↓condJ_true, ↓condJ_false, ↓reduceIte, Nat.reduceEqDiff, Nat.reduceLT, Nat.reduceLeDiff, reduceCtorEq, Nat.reduceAdd, Nat.reduceSub, bindG_none, addG_none, hgrpK_none, nestK_none, hgrpK_guarded, Option.map_none, beq_self_eq_true, bne_self_eq_false, Option.map_some, if_true, if_false, List.getD_cons_zero, List.getD_cons_succ, List.length_cons, List.length_nil, List.mem_cons, List.not_mem_nil, List.mem_append, List.nil_append, List.cons_append, List.append_nil, List.take_succ_cons, List.take_zero, List.drop_succ_cons, List.drop_zero, List.set_cons_zero, List.set_cons_succ, List.map_cons, List.map_nil, implies_true, forall_const, ne_eq, hnt', lnS_0, lnS_1, lnS_2, lnS_3, lnS_4, lnS_5, lnS_6, lnS_next, lnS_put1, encLs_length, items_len, hk, Int.toNat_natCast, Int.natCast_nonneg, bne_self_eq_false, beq_self_eq_true]
      exact hx_ret (ln_fin hnx hwf (lnS_ext ..).bump rfl (lnS_1 ..))
    · have hd1 : decide (n < 0) = false := decide_eq_false hn0
      have hd2 : decide (n ≥ ((begs s).length : Int)) = true := decide_eq_true (by omega)
      rw [if_neg hn0] at hl
      refine hx_call (f := .fn 11) rfl (by rw [hP]; exact hcallD_func (hl)) ?_
      rintro _ σ2 ⟨rfl, rfl⟩
      refine hgo_sound 90 ?_
      simp -implicitDefEqProofs (maxSteps := 1000000) only [simpS, ↓condJ_true, ↓condJ_false, ↓reduceIte, Nat.reduceEqDiff, Nat.reduceLT, Nat.reduceLeDiff, reduceCtorEq, Nat.reduceAdd, Nat.reduceSub, bindG_none, addG_none, hgrpK_none, nestK_none, hgrpK_guarded, Option.map_none, beq_self_eq_true, bne_self_eq_false, Option.map_some, if_true, if_false, List.getD_cons_zero, List.getD_cons_succ, List.length_cons, List.length_nil, List.mem_cons, List.not_mem_nil, List.mem_append, List.nil_append, List.cons_append, List.append_nil, List.take_succ_cons, List.take_zero, List.drop_succ_cons, List.drop_zero, List.set_cons_zero, List.set_cons_succ, List.map_cons, List.map_nil, implies_true, forall_const, ne_eq, hd1, hd2, lnS_0, lnS_1, lnS_2, lnS_3, lnS_4, lnS_5, lnS_6, lnS_next, lnS_put1, encLs_length, items_len, hk, Int.toNat_natCast, Int.natCast_nonneg, bne_self_eq_false, beq_self_eq_true]
      refine hx_drawgo 1 ?_
      simp -implicitDefEqProofs (maxSteps := 3000000) only [drawS, List.map_cons, List.map_nil, List.getElem?_cons_zero, List.getElem?_cons_succ, List.getElem?_nil, simpS, ↓condJ_true, ↓condJ_false, ↓reduceIte, Nat.reduceEqDiff, Nat.reduceLT, Nat.reduceLeDiff, reduceCtorEq, Nat.reduceAdd, Nat.reduceSub, bindG_none, addG_none, hgrpK_none, nestK_none, hgrpK_guarded, Option.map_none, beq_self_eq_true, bne_self_eq_false, Option.map_some, if_true, if_false, List.getD_cons_zero, List.getD_cons_succ, List.length_cons, List.length_nil, List.mem_cons, List.not_mem_nil, List.mem_append, List.nil_append, List.cons_append, List.append_nil, List.take_succ_cons, List.take_zero, List.drop_succ_cons, List.drop_zero, List.set_cons_zero, List.set_cons_succ, List.map_cons, List.map_nil, implies_true, forall_const, ne_eq, hnt', lnS_0, lnS_1, lnS_2, lnS_3, lnS_4, lnS_5, lnS_6, lnS_next, lnS_put1, encLs_length, items_len, hk, Int.toNat_natCast, Int.natCast_nonneg, bne_self_eq_false, beq_self_eq_true]
      refine hd_call (i := 1) (f := .fn 12) (by simp -implicitDefEqProofs (maxSteps := 3000000) only [drawS, List.map_cons, List.map_nil, List.getElem?_cons_zero, List.getElem?_cons_succ, List.getElem?_nil, simpS, ↓condJ_true, ↓condJ_false, ↓reduceIte, Nat.reduceEqDiff, Nat.reduceLT, Nat.reduceLeDiff, reduceCtorEq, Nat.reduceAdd, Nat.reduceSub, bindG_none, addG_none, hgrpK_none, nestK_none, hgrpK_guarded, Option.map_none, beq_self_eq_true, bne_self_eq_false, Option.map_some, if_true, if_false, List.getD_cons_zero, List.getD_cons_succ, List.length_cons, List.length_nil, List.mem_cons, List.not_mem_nil, List.mem_append, List.nil_append, List.cons_append, List.append_nil, List.take_succ_cons, List.take_zero, List.drop_succ_cons, List.drop_zero, List.set_cons_zero, List.set_cons_succ, List.map_cons, List.map_nil, implies_true, forall_const, ne_eq, hnt', lnS_0, lnS_1, lnS_2, lnS_3, lnS_4, lnS_5, lnS_6, lnS_next, lnS_put1, encLs_length, items_len, hk, Int.toNat_natCast, Int.natCast_nonneg, bne_self_eq_false, beq_self_eq_true]) (by rfl) (by rfl) rfl (by rfl) (by rw [hP]; exact hcallD_func (isR_calls _)) ?_
      rintro _ σ2 ⟨rfl, h⟩
      subst σ2
      refine hdgo_sound 1 ?_
      simp -implicitDefEqProofs (maxSteps := 3000000) only [drawS, List.map_cons, List.map_nil, List.getElem?_cons_zero, List.getElem?_cons_succ, List.getElem?_nil, simpS, ↓condJ_true, ↓condJ_false, ↓reduceIte, Nat.reduceEqDiff, Nat.reduceLT, Nat.reduceLeDiff, reduceCtorEq, Nat.reduceAdd, Nat.reduceSub, bindG_none, addG_none, hgrpK_none, nestK_none, hgrpK_guarded, Option.map_none, beq_self_eq_true, bne_self_eq_false, Option.map_some, if_true, if_false, List.getD_cons_zero, List.getD_cons_succ, List.length_cons, List.length_nil, List.mem_cons, List.not_mem_nil, List.mem_append, List.nil_append, List.cons_append, List.append_nil, List.take_succ_cons, List.take_zero, List.drop_succ_cons, List.drop_zero, List.set_cons_zero, List.set_cons_succ, List.map_cons, List.map_nil, implies_true, forall_const, ne_eq, hnt', lnS_0, lnS_1, lnS_2, lnS_3, lnS_4, lnS_5, lnS_6, lnS_next, lnS_put1, encLs_length, items_len, hk, Int.toNat_natCast, Int.natCast_nonneg, bne_self_eq_false, beq_self_eq_true]
      refine hd_call (i := 8) (f := .fn 13) (by simp -implicitDefEqProofs (maxSteps := 3000000) only [drawS, List.map_cons, List.map_nil, List.getElem?_cons_zero, List.getElem?_cons_succ, List.getElem?_nil, simpS, ↓condJ_true, ↓condJ_false, ↓reduceIte, Nat.reduceEqDiff, Nat.reduceLT, Nat.reduceLeDiff, reduceCtorEq, Nat.reduceAdd, Nat.reduceSub, bindG_none, addG_none, hgrpK_none, nestK_none, hgrpK_guarded, Option.map_none, beq_self_eq_true, bne_self_eq_false, Option.map_some, if_true, if_false, List.getD_cons_zero, List.getD_cons_succ, List.length_cons, List.length_nil, List.mem_cons, List.not_mem_nil, List.mem_append, List.nil_append, List.cons_append, List.append_nil, List.take_succ_cons, List.take_zero, List.drop_succ_cons, List.drop_zero, List.set_cons_zero, List.set_cons_succ, List.map_cons, List.map_nil, implies_true, forall_const, ne_eq, hnt', lnS_0, lnS_1, lnS_2, lnS_3, lnS_4, lnS_5, lnS_6, lnS_next, lnS_put1, encLs_length, items_len, hk, Int.toNat_natCast, Int.natCast_nonneg, bne_self_eq_false, beq_self_eq_true]) (by rfl) (by rfl) rfl (by rfl) (by rw [hP]; exact hcallD_func (hlen true)) ?_
      rintro _ σ2 ⟨rfl, rfl⟩
      refine hdgo_sound 2 ?_
      simp -implicitDefEqProofs (maxSteps := 3000000) only [drawS, List.map_cons, List.map_nil, List.getElem?_cons_zero, List.getElem?_cons_succ, List.getElem?_nil, simpS, ↓condJ_true, ↓condJ_false, ↓reduceIte, Nat.reduceEqDiff, Nat.reduceLT, Nat.reduceLeDiff, reduceCtorEq, Nat.reduceAdd, Nat.reduceSub, bindG_none, addG_none, hgrpK_none, nestK_none, hgrpK_guarded, Option.map_none, beq_self_eq_true, bne_self_eq_false, Option.map_some, if_true, if_false, List.getD_cons_zero, List.getD_cons_succ, List.length_cons, List.length_nil, List.mem_cons, List.not_mem_nil, List.mem_append, List.nil_append, List.cons_append, List.append_nil, List.take_succ_cons, List.take_zero, List.drop_succ_cons, List.drop_zero, List.set_cons_zero, List.set_cons_succ, List.map_cons, List.map_nil, implies_true, forall_const, ne_eq, hnt', lnS_0, lnS_1, lnS_2, lnS_3, lnS_4, lnS_5, lnS_6, lnS_next, lnS_put1, encLs_length, items_len, hk, Int.toNat_natCast, Int.natCast_nonneg, bne_self_eq_false, beq_self_eq_true]
      exact hx_ret (ln_fin hnx hwf (lnS_ext ..).bump rfl (lnS_1 ..))

set_option maxHeartbeats 4000000 in
theorem linesR_ok (s : ByteArray) (g : Nat) (n st : Int) (hst : 1 ≤ st ∧ st ≤ 20) (h1 : -9223372036854775808 ≤ n) (h2 : n ≤ 9223372036854775807) (σ : St) (M : Md) (H : LnH M σ s) :
    HX M (lnPost M) [.code linesR] ((0, .str s) :: lnE σ n) (lnS σ s g st false false 0) := by
  have rest := linesB_ok s g n st h1 h2 σ M H
  obtain ⟨hP, hr, hnt, hnx, hwf, hs⟩ := H
  have hnt' : M.nt = 136 := hnt
  have hbl := begs_len s
  simp only [linesB, linesR, h3, tlC, lnE] at rest ⊢
  refine hgo_sound 6 ?_
  simp -implicitDefEqProofs (maxSteps := 1000000) only [simpS, ↓condJ_true, ↓condJ_false, ↓reduceIte, Nat.reduceEqDiff, Nat.reduceLT, Nat.reduceLeDiff, reduceCtorEq, Nat.reduceAdd, Nat.reduceSub, bindG_none, addG_none, hgrpK_none, nestK_none, hgrpK_guarded, Option.map_none, beq_self_eq_true, bne_self_eq_false, Option.map_some, if_true, if_false, List.getD_cons_zero, List.getD_cons_succ, List.length_cons, List.length_nil, List.mem_cons, List.not_mem_nil, List.mem_append, List.nil_append, List.cons_append, List.append_nil, List.take_succ_cons, List.take_zero, List.drop_succ_cons, List.drop_zero, List.set_cons_zero, List.set_cons_succ, List.map_cons, List.map_nil, implies_true, forall_const, ne_eq]
  refine hx_call (f := .fn 10) rfl (by rw [hP]; exact hcallD_func (lines_calls s _)) ?_
  rintro _ σ2 ⟨rfl, h⟩
  subst σ2
  refine hgo_sound 6 ?_
  simp -implicitDefEqProofs (maxSteps := 1000000) only [simpS, ↓condJ_true, ↓condJ_false, ↓reduceIte, Nat.reduceEqDiff, Nat.reduceLT, Nat.reduceLeDiff, reduceCtorEq, Nat.reduceAdd, Nat.reduceSub, bindG_none, addG_none, hgrpK_none, nestK_none, hgrpK_guarded, Option.map_none, beq_self_eq_true, bne_self_eq_false, Option.map_some, if_true, if_false, List.getD_cons_zero, List.getD_cons_succ, List.length_cons, List.length_nil, List.mem_cons, List.not_mem_nil, List.mem_append, List.nil_append, List.cons_append, List.append_nil, List.take_succ_cons, List.take_zero, List.drop_succ_cons, List.drop_zero, List.set_cons_zero, List.set_cons_succ, List.map_cons, List.map_nil, implies_true, forall_const, ne_eq]
  refine hx_know_code fun hw6 hl6 hn6 => ?_
  have hS : ∀ k : Int, (lnS σ s g st false false k).wf := fun k => lnS_wf hwf ..
  refine hx_range_fold (fn := 19) (caps := [.eptr [.str s] 0]) (xs := itemsF s (begs s)) (enc := encL) (fun k : Int => lnS σ s g st false false k)
    (fun (k : Int) (x : Nat × ByteArray) => ∃ j : Nat, k = j ∧ (itemsF s (begs s))[j]? = some x) (cntStep 0 st) 0 rfl (by rw [hP]; rfl) (fun _ _ h => by rw [hr] at h; cases h) (by rw [hP]; exact lines_iter s (by omega)) rfl
    (fun c => rfl) (fun c c' => rfl) (fun k => lnS_wf hwf ..) hl6 (cntStep_oks _ _ _ _ 0 rfl) (fun _ => rfl) (by rw [hnt]; decide) ?_ ?_
  · rintro k ⟨a, ln⟩ ρ ⟨j, rfl, hx⟩ hle hτ hgl M' hP' hnt2 hr' hnx' hwf' hlt'
    have hj : j < (begs s).length := by
      have := (List.getElem?_eq_some_iff.1 hx).1
      rwa [items_len] at this
    have hx' : (a, ln) = ((begs s)[j], lnA s ((begs s)[j])) := by
      have := (List.getElem?_eq_some_iff.1 hx).2
      rw [← this]
      simp [itemsF]
    injection hx' with e1 e2
    subst e1
    subst e2
    have hg := items_get s (begs s) j hj
    simp only [lnS_next, St.next_new, Nat.add_assoc, Nat.reduceAdd] at hle hl6 ⊢
    simp only [encL, putsE]
    have n1 : ¬ ρ.next < σ.next + 8 := by omega
    have hd2 : decide ((j : Int) ≥ ((begs s).length : Int)) = false := decide_eq_false (by omega)
    have hw2 : IntKind.i64.wrap ((j : Int) + 1) = (j : Int) + 1 := IntWalk.i64_in _ (by omega)
    have hjl : (j : Int) < ((begs s).length : Int) := by omega
    refine hgo_sound 60 ?_
    simp -implicitDefEqProofs (maxSteps := 1000000) only [simpS, ↓condJ_true, ↓condJ_false, ↓reduceIte, Nat.reduceEqDiff, Nat.reduceLT, Nat.reduceLeDiff, reduceCtorEq, Nat.reduceAdd, Nat.reduceSub, bindG_none, addG_none, hgrpK_none, nestK_none, hgrpK_guarded, Option.map_none, beq_self_eq_true, bne_self_eq_false, Option.map_some, if_true, if_false, List.getD_cons_zero, List.getD_cons_succ, List.length_cons, List.length_nil, List.mem_cons, List.not_mem_nil, List.mem_append, List.nil_append, List.cons_append, List.append_nil, List.take_succ_cons, List.take_zero, List.drop_succ_cons, List.drop_zero, List.set_cons_zero, List.set_cons_succ, List.map_cons, List.map_nil, implies_true, forall_const, ne_eq, hle, n1, lnS_next]
    by_cases he : (j : Int) + 1 = st
    · have hb : ((j : Int) + 1 == st) = true := by simp [he]
      have hs2 : cntStep 0 st (j : Int) ((begs s)[j], lnA s ((begs s)[j])) = ((j : Int) + 1, some (.exit 0)) := by simp [cntStep, he]
      rw [hs2]
      refine hgo_sound 90 ?_
      simp -implicitDefEqProofs (maxSteps := 1000000) only [simpS, ↓condJ_true, ↓condJ_false, ↓reduceIte, Nat.reduceEqDiff, Nat.reduceLT, Nat.reduceLeDiff, reduceCtorEq, Nat.reduceAdd, Nat.reduceSub, bindG_none, addG_none, hgrpK_none, nestK_none, hgrpK_guarded, Option.map_none, beq_self_eq_true, bne_self_eq_false, Option.map_some, if_true, if_false, List.getD_cons_zero, List.getD_cons_succ, List.length_cons, List.length_nil, List.mem_cons, List.not_mem_nil, List.mem_append, List.nil_append, List.cons_append, List.append_nil, List.take_succ_cons, List.take_zero, List.drop_succ_cons, List.drop_zero, List.set_cons_zero, List.set_cons_succ, List.map_cons, List.map_nil, implies_true, forall_const, ne_eq, hle, n1, lnS_0, lnS_1, lnS_2, lnS_3, lnS_6, lnS_put6, lnS_next, hd2, hg, hj, hjl, hw2, hb, encLs_length, items_len, Int.toNat_natCast, Int.natCast_nonneg]
      exact hx_exit (round_exit rfl rfl (hS _) hl6 hτ hle (Ext.refl ρ))
    · have hb : ((j : Int) + 1 == st) = false := by simp [he]
      have hs2 : cntStep 0 st (j : Int) ((begs s)[j], lnA s ((begs s)[j])) = ((j : Int) + 1, none) := by simp [cntStep, he]
      rw [hs2]
      refine hgo_sound 90 ?_
      simp -implicitDefEqProofs (maxSteps := 1000000) only [simpS, ↓condJ_true, ↓condJ_false, ↓reduceIte, Nat.reduceEqDiff, Nat.reduceLT, Nat.reduceLeDiff, reduceCtorEq, Nat.reduceAdd, Nat.reduceSub, bindG_none, addG_none, hgrpK_none, nestK_none, hgrpK_guarded, Option.map_none, beq_self_eq_true, bne_self_eq_false, Option.map_some, if_true, if_false, List.getD_cons_zero, List.getD_cons_succ, List.length_cons, List.length_nil, List.mem_cons, List.not_mem_nil, List.mem_append, List.nil_append, List.cons_append, List.append_nil, List.take_succ_cons, List.take_zero, List.drop_succ_cons, List.drop_zero, List.set_cons_zero, List.set_cons_succ, List.map_cons, List.map_nil, implies_true, forall_const, ne_eq, hle, n1, lnS_0, lnS_1, lnS_2, lnS_3, lnS_6, lnS_put6, lnS_next, hd2, hg, hj, hjl, hw2, hb, encLs_length, items_len, Int.toNat_natCast, Int.natCast_nonneg]
      exact round_next rfl rfl (hS _) hl6 hτ hle (Ext.refl ρ)
  · rw [cntStep_run _ _ _ _ (by omega), Int.zero_add, items_len]
    have hend2 : ∀ (e : Env), allW e (lnE σ n) → HX M (lnPost M) [.code linesB] e (lnS σ s g st false false (min st ((begs s).length : Int))).bump := fun e he =>
      hx_env (lnE σ n) he (by simpa only [linesB, linesR, h3, tlC, lnE] using rest) (fun _ e => by cases e) (fun _ e => by cases e)
    by_cases hx : st ≤ ((begs s).length : Int)
    · rw [if_pos hx]
      refine hx_exit ((if_pos rfl).mpr (?_ : HX M (lnPost M) _ _ _))
      exact hend2 _ ⟨fun _ _ _ h => h, fun _ _ _ h => h, fun _ _ _ h => h, fun _ _ _ h => h, fun _ _ _ h => h, fun _ _ _ h => h, fun _ _ _ h => h, trivial⟩
    · rw [if_neg hx]
      refine hx_inBlock ?_
      exact hend2 _ ⟨fun _ _ _ h => h, fun _ _ _ h => h, fun _ _ _ h => h, fun _ _ _ h => h, fun _ _ _ h => h, fun _ _ _ h => h, fun _ _ _ h => h, trivial⟩

set_option maxHeartbeats 4000000 in
theorem textLines_calls (s : ByteArray) (n st : Int) (h1 : -9223372036854775808 ≤ n) (h2 : n ≤ 9223372036854775807) (σ : St) : HCalls Try.prog 3 [.str s, .int .i64 n, .int .i64 st] σ (fun d _ => d = .bool true) := by
  refine hcalls_body (fn := Try.f3) rfl c3 (by simp [h3]) (by simp [h3, Try.f3]) ?_
  intro M hP hr hnt hnx hwf hlt
  have rest := fun (hs : s.size ≤ 2000) g => linesR_ok s g n (stopM 20 st) (stopM_pos 20 st (by decide) (by decide)) h1 h2 σ M ⟨hP, hr, hnt, hnx, hwf, hs⟩
  simp only [linesR, h3, tlC, lnE, argEnv] at rest ⊢
  refine hgo_sound 60 ?_
  simp -implicitDefEqProofs (maxSteps := 1000000) only [simpS, ↓condJ_true, ↓condJ_false, ↓reduceIte, Nat.reduceEqDiff, Nat.reduceLT, Nat.reduceLeDiff, reduceCtorEq, Nat.reduceAdd, Nat.reduceSub, bindG_none, addG_none, hgrpK_none, nestK_none, hgrpK_guarded, Option.map_none, beq_self_eq_true, bne_self_eq_false, Option.map_some, if_true, if_false, List.getD_cons_zero, List.getD_cons_succ, List.length_cons, List.length_nil, List.mem_cons, List.not_mem_nil, List.mem_append, List.nil_append, List.cons_append, List.append_nil, List.take_succ_cons, List.take_zero, List.drop_succ_cons, List.drop_zero, List.set_cons_zero, List.set_cons_succ, List.map_cons, List.map_nil, implies_true, forall_const, ne_eq]
  refine hx_call (f := .fn 6) rfl (by rw [hP]; exact hcallD_func (alive_calls _)) ?_
  rintro _ σ2 ⟨rfl, h⟩
  subst σ2
  by_cases hs : 2000 < s.size
  · have hd : decide ((s.size : Int) > 2000) = true := decide_eq_true (by omega)
    refine hgo_sound 60 ?_
    simp -implicitDefEqProofs (maxSteps := 1000000) only [simpS, ↓condJ_true, ↓condJ_false, ↓reduceIte, Nat.reduceEqDiff, Nat.reduceLT, Nat.reduceLeDiff, reduceCtorEq, Nat.reduceAdd, Nat.reduceSub, bindG_none, addG_none, hgrpK_none, nestK_none, hgrpK_guarded, Option.map_none, beq_self_eq_true, bne_self_eq_false, Option.map_some, if_true, if_false, List.getD_cons_zero, List.getD_cons_succ, List.length_cons, List.length_nil, List.mem_cons, List.not_mem_nil, List.mem_append, List.nil_append, List.cons_append, List.append_nil, List.take_succ_cons, List.take_zero, List.drop_succ_cons, List.drop_zero, List.set_cons_zero, List.set_cons_succ, List.map_cons, List.map_nil, implies_true, forall_const, ne_eq, hd]
    exact fpost_pure (σ0 := σ) (.inr rfl) (by rw [hnx]; exact Nat.le_refl _) hwf ((((Ext.refl σ).new _).new _).sub hwf) (resD_cell (d := .bool true) rfl (by simp [St.obj_new, St.next_new, St.obj_bump]) resD_nil) ⟨by omega, trivial⟩ trivial rfl
  have hd : decide ((s.size : Int) > 2000) = false := decide_eq_false (by omega)
  refine hgo_sound 60 ?_
  simp -implicitDefEqProofs (maxSteps := 1000000) only [simpS, ↓condJ_true, ↓condJ_false, ↓reduceIte, Nat.reduceEqDiff, Nat.reduceLT, Nat.reduceLeDiff, reduceCtorEq, Nat.reduceAdd, Nat.reduceSub, bindG_none, addG_none, hgrpK_none, nestK_none, hgrpK_guarded, Option.map_none, beq_self_eq_true, bne_self_eq_false, Option.map_some, if_true, if_false, List.getD_cons_zero, List.getD_cons_succ, List.length_cons, List.length_nil, List.mem_cons, List.not_mem_nil, List.mem_append, List.nil_append, List.cons_append, List.append_nil, List.take_succ_cons, List.take_zero, List.drop_succ_cons, List.drop_zero, List.set_cons_zero, List.set_cons_succ, List.map_cons, List.map_nil, implies_true, forall_const, ne_eq, hd]
  refine hx_call (f := .fn 7) rfl (by rw [hP]; exact hcallD_func (rLines_calls s (by omega) _)) ?_
  rintro _ σ2 ⟨g, rfl, rfl⟩
  refine hgo_sound 60 ?_
  simp -implicitDefEqProofs (maxSteps := 1000000) only [simpS, ↓condJ_true, ↓condJ_false, ↓reduceIte, Nat.reduceEqDiff, Nat.reduceLT, Nat.reduceLeDiff, reduceCtorEq, Nat.reduceAdd, Nat.reduceSub, bindG_none, addG_none, hgrpK_none, nestK_none, hgrpK_guarded, Option.map_none, beq_self_eq_true, bne_self_eq_false, Option.map_some, if_true, if_false, List.getD_cons_zero, List.getD_cons_succ, List.length_cons, List.length_nil, List.mem_cons, List.not_mem_nil, List.mem_append, List.nil_append, List.cons_append, List.append_nil, List.take_succ_cons, List.take_zero, List.drop_succ_cons, List.drop_zero, List.set_cons_zero, List.set_cons_succ, List.map_cons, List.map_nil, implies_true, forall_const, ne_eq]
  refine hx_call (f := .fn 8) rfl (by rw [hP]; exact hcallD_func (new_calls s _)) ?_
  rintro _ σ2 ⟨rfl, rfl⟩
  refine hgo_sound 60 ?_
  simp -implicitDefEqProofs (maxSteps := 1000000) only [simpS, ↓condJ_true, ↓condJ_false, ↓reduceIte, Nat.reduceEqDiff, Nat.reduceLT, Nat.reduceLeDiff, reduceCtorEq, Nat.reduceAdd, Nat.reduceSub, bindG_none, addG_none, hgrpK_none, nestK_none, hgrpK_guarded, Option.map_none, beq_self_eq_true, bne_self_eq_false, Option.map_some, if_true, if_false, List.getD_cons_zero, List.getD_cons_succ, List.length_cons, List.length_nil, List.mem_cons, List.not_mem_nil, List.mem_append, List.nil_append, List.cons_append, List.append_nil, List.take_succ_cons, List.take_zero, List.drop_succ_cons, List.drop_zero, List.set_cons_zero, List.set_cons_succ, List.map_cons, List.map_nil, implies_true, forall_const, ne_eq]
  refine hx_call (f := .fn 9) rfl (by rw [hP]; exact hcallD_func (made_calls (k := σ.next + 5) (s := s) (dn := 0) (md := 0) (xs := []) _ (by simp only [newS, simpS, ↓condJ_true, ↓condJ_false, ↓reduceIte, Nat.reduceEqDiff, Nat.reduceLT, Nat.reduceLeDiff, reduceCtorEq, Nat.reduceAdd, Nat.reduceSub, bindG_none, addG_none, hgrpK_none, nestK_none, hgrpK_guarded, Option.map_none, beq_self_eq_true, bne_self_eq_false, Option.map_some, if_true, if_false, List.getD_cons_zero, List.getD_cons_succ, List.length_cons, List.length_nil, List.mem_cons, List.not_mem_nil, List.mem_append, List.nil_append, List.cons_append, List.append_nil, List.take_succ_cons, List.take_zero, List.drop_succ_cons, List.drop_zero, List.set_cons_zero, List.set_cons_succ, List.map_cons, List.map_nil, implies_true, forall_const, ne_eq]))) ?_
  rintro _ σ2 ⟨rfl, h⟩
  subst σ2
  have hw : IntKind.i64.wrap (1 + IntKind.i64.wrap ((IntKind.u64.wrap st).tmod 20)) = stopM 20 st := rfl
  refine hgo_sound 23 ?_
  simp -implicitDefEqProofs (maxSteps := 1000000) only [simpS, ↓condJ_true, ↓condJ_false, ↓reduceIte, Nat.reduceEqDiff, Nat.reduceLT, Nat.reduceLeDiff, reduceCtorEq, Nat.reduceAdd, Nat.reduceSub, bindG_none, addG_none, hgrpK_none, nestK_none, hgrpK_guarded, Option.map_none, beq_self_eq_true, bne_self_eq_false, Option.map_some, if_true, if_false, List.getD_cons_zero, List.getD_cons_succ, List.length_cons, List.length_nil, List.mem_cons, List.not_mem_nil, List.mem_append, List.nil_append, List.cons_append, List.append_nil, List.take_succ_cons, List.take_zero, List.drop_succ_cons, List.drop_zero, List.set_cons_zero, List.set_cons_succ, List.map_cons, List.map_nil, implies_true, forall_const, ne_eq, hw]
  exact ⟨by decide, hx_env ((0, .str s) :: lnE σ n) ⟨fun _ _ _ h => h, fun _ _ _ h => h, fun _ _ _ h => h, fun _ _ _ h => h, fun _ _ _ h => h, fun _ _ _ h => h, fun _ _ _ h => h, fun _ _ _ h => h, trivial⟩ (rest (by omega) g) (fun _ e => by cases e) (fun _ e => by cases e)⟩

end Go.Hl
