/-
  The law TreeWalks: the leaves are put together.
-/
import Derived.Test.YtlaljehmcacmjaaTrAl
set_option linter.unusedSectionVars false
set_option linter.unusedVariables false
set_option linter.unusedSimpArgs false
set_option maxRecDepth 100000
namespace Go.Hl
open Go Go.Proofs

/-- What stands behind the leaves. -/
def walksC : HC := tlC (tlC walksB)

def lvS (σ : St) (n : Nd) (s k : Int) (W : List (Int × Nd)) (a b : Ob) : St := ((wkS2 σ n s k false W).bump.new a).new b
def lvA (ys : List Nd) : Ob := .vec ys.length 5 (encNs ys)
def lvB (σ : St) (ys : List Nd) : Ob := .box [.vec (σ.next + 8) ys.length]
def wkE3 (σ : St) (z : Int) (P : List Int) : Env := [(1, .int .i64 z), (3, .ptr σ.next 0), (5, .ptr (σ.next + 1) 0), (6, .ptr (σ.next + 2) 0), (9, .ptr (σ.next + 4) 0), (10, .slice .no 1 (encK P)), (13, .ptr (σ.next + 6) 0), (16, .ptr (σ.next + 9) 0)]

theorem zero5_len2 : zero5.length = 5 := rfl

/-- What is known while an element is put behind. -/
structure LvK (T : Ob → Ob → St) (id b18 : Nat) (ys : List Nd) (x : Nd) (L : Nat → Bool) (V : Nat → D) (σ' : St) : Prop where
  st : σ' = T (if L 7 then .vec (ys.length + 1) 5 (encNs ys ++ [encN x]) else if L 5 then .vec (ys.length + 1) 5 (encNs ys ++ [zero5]) else .vec ys.length 5 (encNs ys)) (if L 8 then .box [.vec id (ys.length + 1)] else .box [.vec id ys.length])
  r0 : L 0 = true → V 0 = .vec id ys.length
  r1 : L 1 = true → V 1 = .ptr b18 1
  r2 : L 2 = true → V 2 = .agg (encN x)
  r3 : L 3 = true → V 3 = .int .i64 (ys.length : Int)
  r4 : L 4 = true → V 4 = .slice .full 5 [zero5]
  r5 : L 5 = true → V 5 = .vec id (ys.length + 1)
  r6 : L 6 = true → V 6 = .vptr id (ys.length + 1) 5 ys.length 0
  c5 : L 5 = true → L 0 = true ∧ L 3 = true
  c7 : L 7 = true → L 5 = true ∧ L 6 = true
  c8 : L 8 = true → L 5 = true

theorem LvK.no5 {T : Ob → Ob → St} {id b18 : Nat} {ys : List Nd} {x : Nd} {L : Nat → Bool} {V : Nat → D} {σ' : St} (h : LvK T id b18 ys x L V σ') (h5 : L 5 = false) : L 7 = false ∧ L 8 = false := by
  constructor
  · cases e : L 7
    · rfl
    · rw [(h.c7 e).1] at h5; cases h5
  · cases e : L 8
    · rfl
    · rw [h.c8 e] at h5; cases h5

theorem LvK.pure {T : Ob → Ob → St} {id b18 : Nat} {ys : List Nd} {x : Nd} {L : Nat → Bool} {V : Nat → D} {σ' : St} (h : LvK T id b18 ys x L V σ') {i : Nat} {d : D}
    (hd : (i = 0 ∧ d = .vec id ys.length) ∨ (i = 1 ∧ d = .ptr b18 1) ∨ (i = 2 ∧ d = .agg (encN x)) ∨ (i = 3 ∧ d = .int .i64 (ys.length : Int)) ∨ (i = 4 ∧ d = .slice .full 5 [zero5]) ∨ (i = 6 ∧ d = .vptr id (ys.length + 1) 5 ys.length 0)) :
    LvK T id b18 ys x (upd L i true) (upd V i d) σ' := by
  rcases hd with ⟨rfl, rfl⟩ | ⟨rfl, rfl⟩ | ⟨rfl, rfl⟩ | ⟨rfl, rfl⟩ | ⟨rfl, rfl⟩ | ⟨rfl, rfl⟩
  all_goals
    refine ⟨by simpa [upd] using h.st, ?_, ?_, ?_, ?_, ?_, ?_, ?_, ?_, ?_, ?_⟩
    all_goals first
      | (simp [upd]; done)
      | (have := h.r0; simp [upd] at this ⊢; exact this)
      | (have := h.r1; simp [upd] at this ⊢; exact this)
      | (have := h.r2; simp [upd] at this ⊢; exact this)
      | (have := h.r3; simp [upd] at this ⊢; exact this)
      | (have := h.r4; simp [upd] at this ⊢; exact this)
      | (have := h.r5; simp [upd] at this ⊢; exact this)
      | (have := h.r6; simp [upd] at this ⊢; exact this)
      | (have := h.c5; simp [upd] at this ⊢; exact this)
      | (have := h.c5; simp [upd] at this ⊢; intro h5; have := this h5; simp [this])
      | (have := h.c7; simp [upd] at this ⊢; exact this)
      | (have := h.c7; simp [upd] at this ⊢; intro h5; have := this h5; simp [this])
      | (have := h.c8; simp [upd] at this ⊢; exact this)

theorem LvK.app {T : Ob → Ob → St} {id b18 : Nat} {ys : List Nd} {x : Nd} {L : Nat → Bool} {V : Nat → D} {σ' : St} (h : LvK T id b18 ys x L V σ') (h5 : L 5 = false) (h0 : L 0 = true) (h3 : L 3 = true) :
    LvK T id b18 ys x (upd L 5 true) (upd V 5 (.vec id (ys.length + 1))) (T (.vec (ys.length + 1) 5 (encNs ys ++ [zero5])) (.box [.vec id ys.length])) := by
  obtain ⟨h7, h8⟩ := h.no5 h5
  refine ⟨by simp [upd, h7, h8], ?_, ?_, ?_, ?_, ?_, ?_, ?_, ?_, ?_, ?_⟩
  all_goals first
    | (simp [upd]; done)
    | (have := h.r0; simp [upd] at this ⊢; exact this)
    | (have := h.r1; simp [upd] at this ⊢; exact this)
    | (have := h.r2; simp [upd] at this ⊢; exact this)
    | (have := h.r3; simp [upd] at this ⊢; exact this)
    | (have := h.r4; simp [upd] at this ⊢; exact this)
    | (have := h.r5; simp [upd] at this ⊢; exact this)
    | (have := h.r6; simp [upd] at this ⊢; exact this)
    | (have := h.c5; simp [upd] at this ⊢; exact this)
    | (have := h.c7; simp [upd] at this ⊢; exact this)
    | (have := h.c8; simp [upd] at this ⊢; exact this)
    | (simp [upd, *]; done)

theorem LvK.sto {T : Ob → Ob → St} {id b18 : Nat} {ys : List Nd} {x : Nd} {L : Nat → Bool} {V : Nat → D} {σ' : St} (h : LvK T id b18 ys x L V σ') {d : D} (h5 : L 5 = true) (h6 : L 6 = true) :
    LvK T id b18 ys x (upd L 7 true) (upd V 7 d) (T (.vec (ys.length + 1) 5 (encNs ys ++ [encN x])) (if L 8 then .box [.vec id (ys.length + 1)] else .box [.vec id ys.length])) := by
  refine ⟨by simp [upd], ?_, ?_, ?_, ?_, ?_, ?_, ?_, ?_, ?_, ?_⟩
  all_goals first
    | (simp [upd]; done)
    | (have := h.r0; simp [upd] at this ⊢; exact this)
    | (have := h.r1; simp [upd] at this ⊢; exact this)
    | (have := h.r2; simp [upd] at this ⊢; exact this)
    | (have := h.r3; simp [upd] at this ⊢; exact this)
    | (have := h.r4; simp [upd] at this ⊢; exact this)
    | (have := h.r5; simp [upd] at this ⊢; exact this)
    | (have := h.r6; simp [upd] at this ⊢; exact this)
    | (have := h.c5; simp [upd] at this ⊢; exact this)
    | (have := h.c7; simp [upd] at this ⊢; exact this)
    | (have := h.c8; simp [upd] at this ⊢; exact this)
    | (simp [upd, *]; done)

theorem LvK.bx {T : Ob → Ob → St} {id b18 : Nat} {ys : List Nd} {x : Nd} {L : Nat → Bool} {V : Nat → D} {σ' : St} (h : LvK T id b18 ys x L V σ') {d : D} (h5 : L 5 = true) :
    LvK T id b18 ys x (upd L 8 true) (upd V 8 d) (T (if L 7 then .vec (ys.length + 1) 5 (encNs ys ++ [encN x]) else .vec (ys.length + 1) 5 (encNs ys ++ [zero5])) (.box [.vec id (ys.length + 1)])) := by
  refine ⟨by simp [upd, h5], ?_, ?_, ?_, ?_, ?_, ?_, ?_, ?_, ?_, ?_⟩
  all_goals first
    | (simp [upd]; done)
    | (have := h.r0; simp [upd] at this ⊢; exact this)
    | (have := h.r1; simp [upd] at this ⊢; exact this)
    | (have := h.r2; simp [upd] at this ⊢; exact this)
    | (have := h.r3; simp [upd] at this ⊢; exact this)
    | (have := h.r4; simp [upd] at this ⊢; exact this)
    | (have := h.r5; simp [upd] at this ⊢; exact this)
    | (have := h.r6; simp [upd] at this ⊢; exact this)
    | (have := h.c5; simp [upd] at this ⊢; exact this)
    | (have := h.c7; simp [upd] at this ⊢; exact this)
    | (have := h.c8; simp [upd] at this ⊢; exact this)
    | (simp [upd, *]; done)

theorem lvS_next (σ : St) (n : Nd) (s k : Int) (W : List (Int × Nd)) (a b : Ob) : (lvS σ n s k W a b).next = σ.next + 10 := rfl
theorem lvS_wf {σ : St} (hw : σ.wf) (n : Nd) (s k : Int) (W : List (Int × Nd)) (ys : List Nd) : (lvS σ n s k W (lvA ys) (lvB σ ys)).wf := by
  refine St.wf.new (St.wf.new (St.wf.bump ((wkS_wf hw _ _ _ _).box (cs := [.int .i64 k]) ⟨trivial, trivial⟩)) (show (lvA ys).lt _ from encNs_lt _ ys)) ⟨?_, trivial⟩
  show σ.next + 8 < σ.next + 8 + 1 + 1
  omega
theorem lvS_ext (σ : St) (n : Nd) (s k : Int) (W : List (Int × Nd)) (a b : Ob) : Ext σ (lvS σ n s k W a b) := ((((wkS_ext _ _ _ _ _).new _).bump).new _).new _

theorem lvS_8 (σ : St) (n : Nd) (s k : Int) (W : List (Int × Nd)) (a b : Ob) : (lvS σ n s k W a b).obj (σ.next + 8) = some (a) := by simp only [lvS, wkS2, wkS, simpS, ↓condJ_true, ↓condJ_false, ↓reduceIte, Nat.reduceEqDiff, Nat.reduceLT, Nat.reduceLeDiff, reduceCtorEq, Nat.reduceAdd, Nat.reduceSub, Option.map_some, if_true, if_false, List.getD_cons_zero, List.getD_cons_succ, List.length_cons, List.length_nil, List.mem_cons, List.not_mem_nil, List.mem_append, List.nil_append, List.cons_append, List.append_nil, List.take_succ_cons, List.take_zero, List.drop_succ_cons, List.drop_zero, List.set_cons_zero, List.set_cons_succ, List.map_cons, List.map_nil, implies_true, forall_const, ne_eq]
theorem lvS_9 (σ : St) (n : Nd) (s k : Int) (W : List (Int × Nd)) (a b : Ob) : (lvS σ n s k W a b).obj (σ.next + 9) = some (b) := by simp only [lvS, wkS2, wkS, simpS, ↓condJ_true, ↓condJ_false, ↓reduceIte, Nat.reduceEqDiff, Nat.reduceLT, Nat.reduceLeDiff, reduceCtorEq, Nat.reduceAdd, Nat.reduceSub, Option.map_some, if_true, if_false, List.getD_cons_zero, List.getD_cons_succ, List.length_cons, List.length_nil, List.mem_cons, List.not_mem_nil, List.mem_append, List.nil_append, List.cons_append, List.append_nil, List.take_succ_cons, List.take_zero, List.drop_succ_cons, List.drop_zero, List.set_cons_zero, List.set_cons_succ, List.map_cons, List.map_nil, implies_true, forall_const, ne_eq]
theorem lvS_0 (σ : St) (n : Nd) (s k : Int) (W : List (Int × Nd)) (a b : Ob) : (lvS σ n s k W a b).obj (σ.next) = some (.bx none (encN n)) := by simp only [lvS, wkS2, wkS, simpS, ↓condJ_true, ↓condJ_false, ↓reduceIte, Nat.reduceEqDiff, Nat.reduceLT, Nat.reduceLeDiff, reduceCtorEq, Nat.reduceAdd, Nat.reduceSub, Option.map_some, if_true, if_false, List.getD_cons_zero, List.getD_cons_succ, List.length_cons, List.length_nil, List.mem_cons, List.not_mem_nil, List.mem_append, List.nil_append, List.cons_append, List.append_nil, List.take_succ_cons, List.take_zero, List.drop_succ_cons, List.drop_zero, List.set_cons_zero, List.set_cons_succ, List.map_cons, List.map_nil, implies_true, forall_const, ne_eq]
theorem lvS_1 (σ : St) (n : Nd) (s k : Int) (W : List (Int × Nd)) (a b : Ob) : (lvS σ n s k W a b).obj (σ.next + 1) = some (.bx none [.int .i64 s]) := by simp only [lvS, wkS2, wkS, simpS, ↓condJ_true, ↓condJ_false, ↓reduceIte, Nat.reduceEqDiff, Nat.reduceLT, Nat.reduceLeDiff, reduceCtorEq, Nat.reduceAdd, Nat.reduceSub, Option.map_some, if_true, if_false, List.getD_cons_zero, List.getD_cons_succ, List.length_cons, List.length_nil, List.mem_cons, List.not_mem_nil, List.mem_append, List.nil_append, List.cons_append, List.append_nil, List.take_succ_cons, List.take_zero, List.drop_succ_cons, List.drop_zero, List.set_cons_zero, List.set_cons_succ, List.map_cons, List.map_nil, implies_true, forall_const, ne_eq]
theorem lvS_2 (σ : St) (n : Nd) (s k : Int) (W : List (Int × Nd)) (a b : Ob) : (lvS σ n s k W a b).obj (σ.next + 2) = some (.bx none [.bool false]) := by simp only [lvS, wkS2, wkS, simpS, ↓condJ_true, ↓condJ_false, ↓reduceIte, Nat.reduceEqDiff, Nat.reduceLT, Nat.reduceLeDiff, reduceCtorEq, Nat.reduceAdd, Nat.reduceSub, Option.map_some, if_true, if_false, List.getD_cons_zero, List.getD_cons_succ, List.length_cons, List.length_nil, List.mem_cons, List.not_mem_nil, List.mem_append, List.nil_append, List.cons_append, List.append_nil, List.take_succ_cons, List.take_zero, List.drop_succ_cons, List.drop_zero, List.set_cons_zero, List.set_cons_succ, List.map_cons, List.map_nil, implies_true, forall_const, ne_eq]
theorem lvS_4 (σ : St) (n : Nd) (s k : Int) (W : List (Int × Nd)) (a b : Ob) : (lvS σ n s k W a b).obj (σ.next + 4) = some (.bx none [.slice (.tok (σ.next + 5)) 6 (W.map stp)]) := by simp only [lvS, wkS2, wkS, simpS, ↓condJ_true, ↓condJ_false, ↓reduceIte, Nat.reduceEqDiff, Nat.reduceLT, Nat.reduceLeDiff, reduceCtorEq, Nat.reduceAdd, Nat.reduceSub, Option.map_some, if_true, if_false, List.getD_cons_zero, List.getD_cons_succ, List.length_cons, List.length_nil, List.mem_cons, List.not_mem_nil, List.mem_append, List.nil_append, List.cons_append, List.append_nil, List.take_succ_cons, List.take_zero, List.drop_succ_cons, List.drop_zero, List.set_cons_zero, List.set_cons_succ, List.map_cons, List.map_nil, implies_true, forall_const, ne_eq]
theorem lvS_6 (σ : St) (n : Nd) (s k : Int) (W : List (Int × Nd)) (a b : Ob) : (lvS σ n s k W a b).obj (σ.next + 6) = some (.bx none [.int .i64 k]) := by simp only [lvS, wkS2, wkS, simpS, ↓condJ_true, ↓condJ_false, ↓reduceIte, Nat.reduceEqDiff, Nat.reduceLT, Nat.reduceLeDiff, reduceCtorEq, Nat.reduceAdd, Nat.reduceSub, Option.map_some, if_true, if_false, List.getD_cons_zero, List.getD_cons_succ, List.length_cons, List.length_nil, List.mem_cons, List.not_mem_nil, List.mem_append, List.nil_append, List.cons_append, List.append_nil, List.take_succ_cons, List.take_zero, List.drop_succ_cons, List.drop_zero, List.set_cons_zero, List.set_cons_succ, List.map_cons, List.map_nil, implies_true, forall_const, ne_eq]
theorem lvS_p8 (σ : St) (n : Nd) (s k : Int) (W : List (Int × Nd)) (a b : Ob) (c : Ob) : (lvS σ n s k W a b).put (σ.next + 8) c = lvS σ n s k W c b := by simp only [lvS, wkS2, wkS, simpS, ↓condJ_true, ↓condJ_false, ↓reduceIte, Nat.reduceEqDiff, Nat.reduceLT, Nat.reduceLeDiff, reduceCtorEq, Nat.reduceAdd, Nat.reduceSub, Option.map_some, if_true, if_false, List.getD_cons_zero, List.getD_cons_succ, List.length_cons, List.length_nil, List.mem_cons, List.not_mem_nil, List.mem_append, List.nil_append, List.cons_append, List.append_nil, List.take_succ_cons, List.take_zero, List.drop_succ_cons, List.drop_zero, List.set_cons_zero, List.set_cons_succ, List.map_cons, List.map_nil, implies_true, forall_const, ne_eq]
theorem lvS_p9 (σ : St) (n : Nd) (s k : Int) (W : List (Int × Nd)) (a b : Ob) (c : Ob) : (lvS σ n s k W a b).put (σ.next + 9) c = lvS σ n s k W a c := by simp only [lvS, wkS2, wkS, simpS, ↓condJ_true, ↓condJ_false, ↓reduceIte, Nat.reduceEqDiff, Nat.reduceLT, Nat.reduceLeDiff, reduceCtorEq, Nat.reduceAdd, Nat.reduceSub, Option.map_some, if_true, if_false, List.getD_cons_zero, List.getD_cons_succ, List.length_cons, List.length_nil, List.mem_cons, List.not_mem_nil, List.mem_append, List.nil_append, List.cons_append, List.append_nil, List.take_succ_cons, List.take_zero, List.drop_succ_cons, List.drop_zero, List.set_cons_zero, List.set_cons_succ, List.map_cons, List.map_nil, implies_true, forall_const, ne_eq]

structure LvaS where
  j : Nat
  ys : List Nd

set_option maxHeartbeats 4000000 in
theorem walks2 (n : Nd) (z s k : Int) (P : List Int) (σ : St)
    (rest : ∀ M, WkH M σ n → HX M (wkPost M) [.code walksC] (wkE3 σ z P) (lvS σ n s k (walkN n) (lvA (leavesL (walkN n))) (lvB σ (leavesL (walkN n)))))
    (M : Md) (H : WkH M σ n) : HX M (wkPost M) [.code walksB] (wkE2 σ z P) (wkS2 σ n s k false (walkN n)).bump := by
  have hW : (walkN n).length ≤ 2000 := by
    have := H.cnt
    unfold walkN
    split
    · rw [preN_len]; exact this
    · simp
  have hlen := map_stp_len (walkN n)
  generalize hWe : walkN n = W at *
  simp only [walksB, walksA, h4, tlC, wkE2]
  refine hgo_sound 20 ?_
  simp -implicitDefEqProofs (maxSteps := 1000000) only [simpS, ↓condJ_true, ↓condJ_false, ↓reduceIte, Nat.reduceEqDiff, Nat.reduceLT, Nat.reduceLeDiff, reduceCtorEq, Nat.reduceAdd, Nat.reduceSub, Option.map_some, if_true, if_false, List.getD_cons_zero, List.getD_cons_succ, List.length_cons, List.length_nil, List.mem_cons, List.not_mem_nil, List.mem_append, List.nil_append, List.cons_append, List.append_nil, List.take_succ_cons, List.take_zero, List.drop_succ_cons, List.drop_zero, List.set_cons_zero, List.set_cons_succ, List.map_cons, List.map_nil, implies_true, forall_const, ne_eq, wkS2, wkS_4, wkS_next]
  refine hx_know_code fun hw hl1 hn1 => ?_
  refine hx_loop (S := LvaS) (fun t => [(1, .int .i64 z), (3, .ptr σ.next 0), (5, .ptr (σ.next + 1) 0), (6, .ptr (σ.next + 2) 0), (9, .ptr (σ.next + 4) 0), (10, .slice .no 1 (encK P)), (13, .ptr (σ.next + 6) 0), (16, .ptr (σ.next + 9) 0), (88, .slice (.tok (σ.next + 5)) 6 (W.map stp)), (89, .int .i64 ((W.map stp).length : Int)), (90, .int .i64 t.j)])
    (fun t => lvS σ n s k W (lvA t.ys) (lvB σ t.ys)) (fun t => t.j ≤ W.length ∧ t.ys ++ leavesL (W.drop t.j) = leavesL W) (fun t => W.length - t.j) ⟨0, []⟩ ⟨Nat.zero_le _, rfl⟩ (fun _ _ h => by rw [H.hr] at h; cases h) ?_ ?_
  · refine Drop.all hw hn1 ⟨⟨rfl, trivial⟩, ⟨rfl, ?_⟩, ⟨rfl, ?_⟩, ⟨rfl, ?_⟩, ⟨rfl, ?_⟩, ⟨rfl, ⟨trivial, encK_lt _ _⟩⟩, ⟨rfl, ?_⟩, ⟨rfl, ?_⟩, ⟨rfl, ⟨?_, map_stp_lt _ _⟩⟩, ⟨rfl, trivial⟩, ⟨rfl, trivial⟩, trivial⟩
    all_goals (simp only [D.lt, Own.lt, lvS_next]; omega)
  rintro ⟨j, ys⟩ ⟨j1, j4⟩
  simp only at j1 j4 ⊢
  have hjc : ((j : Int) < ((W.map stp).length : Int)) = (j < W.length) := by rw [hlen]; simp
  by_cases hj : j < W.length
  · have hjd : decide (((j : Nat) : Int) < ((W.map stp).length : Int)) = true := by simp [hjc, hj]
    have hjp : ((j : Int) < ((W.map stp).length : Int)) := by rw [hlen]; omega
    have hget : (W.map stp).getD j [] = stp W[j] := by simp [List.getD, hj]
    have hd1 : W.drop j = W[j] :: W.drop (j + 1) := List.drop_eq_getElem_cons hj
    rw [hd1] at j4
    generalize hx : W[j] = x at *
    obtain ⟨dd, x⟩ := x
    simp only [leavesL] at j4
    have hwr : IntKind.i64.wrap ((j : Int) + 1) = ((j + 1 : Nat) : Int) := by rw [IntWalk.i64_in _ (by omega)]; rfl
    by_cases hk : x.kind = 1
    · have hkd : (x.kind == 1) = true := by simp [hk]
      refine hgo_sound 30 ?_
      simp -implicitDefEqProofs (maxSteps := 1000000) only [simpS, ↓condJ_true, ↓condJ_false, ↓reduceIte, Nat.reduceEqDiff, Nat.reduceLT, Nat.reduceLeDiff, reduceCtorEq, Nat.reduceAdd, Nat.reduceSub, Option.map_some, if_true, if_false, List.getD_cons_zero, List.getD_cons_succ, List.length_cons, List.length_nil, List.mem_cons, List.not_mem_nil, List.mem_append, List.nil_append, List.cons_append, List.append_nil, List.take_succ_cons, List.take_zero, List.drop_succ_cons, List.drop_zero, List.set_cons_zero, List.set_cons_succ, List.map_cons, List.map_nil, implies_true, forall_const, ne_eq, hjd, hjp, Int.toNat_natCast, Int.natCast_nonneg, hget, stp, encN_length, encN_take, encN_kind, lvS_next, hwr, hkd]
      have hnt3 : M.nt = 159 := H.hnt
      have hyl : ys.length ≤ W.length := by
        have h1 := congrArg List.length j4
        have h2 := leavesL_le W
        simp only [List.length_append] at h1
        omega
      have hyl2 : (encNs ys).length = ys.length := encNs_length ys
      refine hx_drawS (LvK (fun a b => (lvS σ n s k W a b).new (.bx none (D.int IntKind.i64 dd :: encN x))) (σ.next + 8) (σ.next + 10) ys x) ?_ ?_ ?_
      · exact ⟨rfl, (fun h => by cases h), (fun h => by cases h), (fun h => by cases h), (fun h => by cases h), (fun h => by cases h), (fun h => by cases h), (fun h => by cases h), (fun h => by cases h), (fun h => by cases h), (fun h => by cases h)⟩
      · intro L V σ' hK
        simp only [allD_nil, allD_cons]
        refine ⟨fun hi ha => ?_, fun hi ha => ?_, fun hi ha => ?_, fun hi ha => ?_, fun hi ha => ?_, fun hi ha => ?_, fun hi ha => ?_, fun hi ha => ?_, fun hi ha => ?_, trivial⟩
        · have h5 : L 5 = false := by
            cases e : L 5
            · rfl
            · rw [(hK.c5 e).1] at hi; cases hi
          have h8 := (hK.no5 h5).2
          have hs := hK.st
          rw [h8] at hs
          subst hs
          simp -implicitDefEqProofs (maxSteps := 3000000) only [dsetS, List.map_cons, List.map_nil, simpS, ↓condJ_true, ↓condJ_false, ↓reduceIte, Nat.reduceEqDiff, Nat.reduceLT, Nat.reduceLeDiff, reduceCtorEq, Nat.reduceAdd, Nat.reduceSub, Option.map_some, if_true, if_false, List.getD_cons_zero, List.getD_cons_succ, List.length_cons, List.length_nil, List.mem_cons, List.not_mem_nil, List.mem_append, List.nil_append, List.cons_append, List.append_nil, List.take_succ_cons, List.take_zero, List.drop_succ_cons, List.drop_zero, List.set_cons_zero, List.set_cons_succ, List.map_cons, List.map_nil, implies_true, forall_const, ne_eq, hnt3, encN_length, encN_take, lvS_next, lvS_8, lvS_9, lvS_p8, lvS_p9, if_true, if_false, Bool.false_eq_true, hyl2]
          exact hK.pure (.inl ⟨rfl, rfl⟩)
        · simp -implicitDefEqProofs (maxSteps := 3000000) only [dsetS, List.map_cons, List.map_nil, simpS, ↓condJ_true, ↓condJ_false, ↓reduceIte, Nat.reduceEqDiff, Nat.reduceLT, Nat.reduceLeDiff, reduceCtorEq, Nat.reduceAdd, Nat.reduceSub, Option.map_some, if_true, if_false, List.getD_cons_zero, List.getD_cons_succ, List.length_cons, List.length_nil, List.mem_cons, List.not_mem_nil, List.mem_append, List.nil_append, List.cons_append, List.append_nil, List.take_succ_cons, List.take_zero, List.drop_succ_cons, List.drop_zero, List.set_cons_zero, List.set_cons_succ, List.map_cons, List.map_nil, implies_true, forall_const, ne_eq, hnt3, encN_length, encN_take, lvS_next, lvS_8, lvS_9, lvS_p8, lvS_p9, if_true, if_false, Bool.false_eq_true, hyl2]
          exact hK.pure (.inr (.inl ⟨rfl, rfl⟩))
        · have h1 := hK.r1 (ha 1 (by decide))
          have hs := hK.st
          subst hs
          simp -implicitDefEqProofs (maxSteps := 3000000) only [dsetS, List.map_cons, List.map_nil, simpS, ↓condJ_true, ↓condJ_false, ↓reduceIte, Nat.reduceEqDiff, Nat.reduceLT, Nat.reduceLeDiff, reduceCtorEq, Nat.reduceAdd, Nat.reduceSub, Option.map_some, if_true, if_false, List.getD_cons_zero, List.getD_cons_succ, List.length_cons, List.length_nil, List.mem_cons, List.not_mem_nil, List.mem_append, List.nil_append, List.cons_append, List.append_nil, List.take_succ_cons, List.take_zero, List.drop_succ_cons, List.drop_zero, List.set_cons_zero, List.set_cons_succ, List.map_cons, List.map_nil, implies_true, forall_const, ne_eq, hnt3, encN_length, encN_take, lvS_next, lvS_8, lvS_9, lvS_p8, lvS_p9, if_true, if_false, Bool.false_eq_true, hyl2, h1]
          exact hK.pure (.inr (.inr (.inl ⟨rfl, rfl⟩)))
        · have h5 : L 5 = false := by
            cases e : L 5
            · rfl
            · rw [(hK.c5 e).2] at hi; cases hi
          obtain ⟨h7, h8⟩ := hK.no5 h5
          have h0 := hK.r0 (ha 0 (by decide))
          have hs := hK.st
          rw [h5, h7, h8] at hs
          subst hs
          simp -implicitDefEqProofs (maxSteps := 3000000) only [dsetS, List.map_cons, List.map_nil, simpS, ↓condJ_true, ↓condJ_false, ↓reduceIte, Nat.reduceEqDiff, Nat.reduceLT, Nat.reduceLeDiff, reduceCtorEq, Nat.reduceAdd, Nat.reduceSub, Option.map_some, if_true, if_false, List.getD_cons_zero, List.getD_cons_succ, List.length_cons, List.length_nil, List.mem_cons, List.not_mem_nil, List.mem_append, List.nil_append, List.cons_append, List.append_nil, List.take_succ_cons, List.take_zero, List.drop_succ_cons, List.drop_zero, List.set_cons_zero, List.set_cons_succ, List.map_cons, List.map_nil, implies_true, forall_const, ne_eq, hnt3, encN_length, encN_take, lvS_next, lvS_8, lvS_9, lvS_p8, lvS_p9, if_true, if_false, Bool.false_eq_true, hyl2, h0]
          exact hK.pure (.inr (.inr (.inr (.inl ⟨rfl, rfl⟩))))
        · simp -implicitDefEqProofs (maxSteps := 3000000) only [dsetS, List.map_cons, List.map_nil, simpS, ↓condJ_true, ↓condJ_false, ↓reduceIte, Nat.reduceEqDiff, Nat.reduceLT, Nat.reduceLeDiff, reduceCtorEq, Nat.reduceAdd, Nat.reduceSub, Option.map_some, if_true, if_false, List.getD_cons_zero, List.getD_cons_succ, List.length_cons, List.length_nil, List.mem_cons, List.not_mem_nil, List.mem_append, List.nil_append, List.cons_append, List.append_nil, List.take_succ_cons, List.take_zero, List.drop_succ_cons, List.drop_zero, List.set_cons_zero, List.set_cons_succ, List.map_cons, List.map_nil, implies_true, forall_const, ne_eq, hnt3, encN_length, encN_take, lvS_next, lvS_8, lvS_9, lvS_p8, lvS_p9, if_true, if_false, Bool.false_eq_true, hyl2]
          exact hK.pure (.inr (.inr (.inr (.inr (.inl ⟨rfl, rfl⟩)))))
        · obtain ⟨h7, h8⟩ := hK.no5 hi
          have h0 := hK.r0 (ha 0 (by decide))
          have h4 := hK.r4 (ha 4 (by decide))
          have hs := hK.st
          have h5 : L 5 = false := hi
          rw [h5, h7, h8] at hs
          subst hs
          have hb1 : (ys.length + 1) * 72 ≤ 140737488355328 := by omega
          have hb2 : ys.length + 1 ≤ 9223372036854775807 := by omega
          simp -implicitDefEqProofs (maxSteps := 3000000) only [dsetS, List.map_cons, List.map_nil, simpS, ↓condJ_true, ↓condJ_false, ↓reduceIte, Nat.reduceEqDiff, Nat.reduceLT, Nat.reduceLeDiff, reduceCtorEq, Nat.reduceAdd, Nat.reduceSub, Option.map_some, if_true, if_false, List.getD_cons_zero, List.getD_cons_succ, List.length_cons, List.length_nil, List.mem_cons, List.not_mem_nil, List.mem_append, List.nil_append, List.cons_append, List.append_nil, List.take_succ_cons, List.take_zero, List.drop_succ_cons, List.drop_zero, List.set_cons_zero, List.set_cons_succ, List.map_cons, List.map_nil, implies_true, forall_const, ne_eq, hnt3, encN_length, encN_take, lvS_next, lvS_8, lvS_9, lvS_p8, lvS_p9, if_true, if_false, Bool.false_eq_true, hyl2, h0, h4, hb1, hb2]
          exact hK.app hi (ha 0 (by decide)) (ha 3 (by decide))
        · have h5 := ha 5 (by decide)
          have h7 : L 7 = false := by
            cases e : L 7
            · rfl
            · have := (hK.c7 e).2
              rw [show L 6 = false from hi] at this
              cases this
          have v5 := hK.r5 h5
          have v3 := hK.r3 (ha 3 (by decide))
          have hs := hK.st
          rw [h5, h7] at hs
          subst hs
          have hin : (ys.length : Int) < ((ys.length + 1 : Nat) : Int) := by omega
          simp -implicitDefEqProofs (maxSteps := 3000000) only [dsetS, List.map_cons, List.map_nil, simpS, ↓condJ_true, ↓condJ_false, ↓reduceIte, Nat.reduceEqDiff, Nat.reduceLT, Nat.reduceLeDiff, reduceCtorEq, Nat.reduceAdd, Nat.reduceSub, Option.map_some, if_true, if_false, List.getD_cons_zero, List.getD_cons_succ, List.length_cons, List.length_nil, List.mem_cons, List.not_mem_nil, List.mem_append, List.nil_append, List.cons_append, List.append_nil, List.take_succ_cons, List.take_zero, List.drop_succ_cons, List.drop_zero, List.set_cons_zero, List.set_cons_succ, List.map_cons, List.map_nil, implies_true, forall_const, ne_eq, hnt3, encN_length, encN_take, lvS_next, lvS_8, lvS_9, lvS_p8, lvS_p9, if_true, if_false, Bool.false_eq_true, hyl2, List.length_append, List.length_cons, List.length_nil, Int.natCast_nonneg, Int.toNat_natCast, v5, v3, hin]
          exact hK.pure (.inr (.inr (.inr (.inr (.inr ⟨rfl, rfl⟩)))))
        · have h5 := ha 5 (by decide)
          have h6 := ha 6 (by decide)
          have v6 := hK.r6 h6
          have v2 := hK.r2 (ha 2 (by decide))
          have h7 : L 7 = false := hi
          have hs := hK.st
          rw [h5, h7] at hs
          subst hs
          have hgz : (encNs ys ++ [zero5]).getD ys.length [] = zero5 := by rw [← hyl2]; simp [List.getD]
          have hset : (encNs ys ++ [zero5]).set ys.length (encN x) = encNs ys ++ [encN x] := by rw [← hyl2]; simp
          simp -implicitDefEqProofs (maxSteps := 3000000) only [dsetS, List.map_cons, List.map_nil, simpS, ↓condJ_true, ↓condJ_false, ↓reduceIte, Nat.reduceEqDiff, Nat.reduceLT, Nat.reduceLeDiff, reduceCtorEq, Nat.reduceAdd, Nat.reduceSub, Option.map_some, if_true, if_false, List.getD_cons_zero, List.getD_cons_succ, List.length_cons, List.length_nil, List.mem_cons, List.not_mem_nil, List.mem_append, List.nil_append, List.cons_append, List.append_nil, List.take_succ_cons, List.take_zero, List.drop_succ_cons, List.drop_zero, List.set_cons_zero, List.set_cons_succ, List.map_cons, List.map_nil, implies_true, forall_const, ne_eq, hnt3, encN_length, encN_take, lvS_next, lvS_8, lvS_9, lvS_p8, lvS_p9, if_true, if_false, Bool.false_eq_true, hyl2, List.length_append, List.length_cons, List.length_nil, Int.natCast_nonneg, Int.toNat_natCast, v6, v2]
          simp -implicitDefEqProofs (maxSteps := 3000000) only [dsetS, List.map_cons, List.map_nil, simpS, ↓condJ_true, ↓condJ_false, ↓reduceIte, Nat.reduceEqDiff, Nat.reduceLT, Nat.reduceLeDiff, reduceCtorEq, Nat.reduceAdd, Nat.reduceSub, Option.map_some, if_true, if_false, List.getD_cons_zero, List.getD_cons_succ, List.length_cons, List.length_nil, List.mem_cons, List.not_mem_nil, List.mem_append, List.nil_append, List.cons_append, List.append_nil, List.take_succ_cons, List.take_zero, List.drop_succ_cons, List.drop_zero, List.set_cons_zero, List.set_cons_succ, List.map_cons, List.map_nil, implies_true, forall_const, ne_eq, hnt3, encN_length, encN_take, lvS_next, lvS_8, lvS_9, lvS_p8, lvS_p9, if_true, if_false, Bool.false_eq_true, hyl2, List.length_append, List.length_cons, List.length_nil, Int.natCast_nonneg, Int.toNat_natCast, hgz, hset, zero5_len2]
          exact hK.sto h5 h6
        · have h5 := ha 5 (by decide)
          have v5 := hK.r5 h5
          have h8 : L 8 = false := hi
          have hs := hK.st
          rw [h5, h8] at hs
          subst hs
          simp -implicitDefEqProofs (maxSteps := 3000000) only [dsetS, List.map_cons, List.map_nil, simpS, ↓condJ_true, ↓condJ_false, ↓reduceIte, Nat.reduceEqDiff, Nat.reduceLT, Nat.reduceLeDiff, reduceCtorEq, Nat.reduceAdd, Nat.reduceSub, Option.map_some, if_true, if_false, List.getD_cons_zero, List.getD_cons_succ, List.length_cons, List.length_nil, List.mem_cons, List.not_mem_nil, List.mem_append, List.nil_append, List.cons_append, List.append_nil, List.take_succ_cons, List.take_zero, List.drop_succ_cons, List.drop_zero, List.set_cons_zero, List.set_cons_succ, List.map_cons, List.map_nil, implies_true, forall_const, ne_eq, hnt3, encN_length, encN_take, lvS_next, lvS_8, lvS_9, lvS_p8, lvS_p9, if_true, if_false, Bool.false_eq_true, hyl2, List.length_append, List.length_cons, List.length_nil, Int.natCast_nonneg, Int.toNat_natCast, v5]
          exact hK.bx h5
      · intro L V σ' hL hK
        have hs := hK.st
        rw [hL 7 (by decide), hL 8 (by decide), if_pos rfl, if_pos rfl] at hs
        have hA : lvA (ys ++ [x]) = .vec (ys.length + 1) 5 (encNs ys ++ [encN x]) := by simp [lvA, encNs_eq]
        have hB : lvB σ (ys ++ [x]) = .box [.vec (σ.next + 8) (ys.length + 1)] := by simp [lvB]
        rw [← hA, ← hB] at hs
        subst hs
        rw [if_pos hk] at j4
        simp -implicitDefEqProofs (maxSteps := 3000000) only [dsetS, List.map_cons, List.map_nil, simpS, ↓condJ_true, ↓condJ_false, ↓reduceIte, Nat.reduceEqDiff, Nat.reduceLT, Nat.reduceLeDiff, reduceCtorEq, Nat.reduceAdd, Nat.reduceSub, Option.map_some, if_true, if_false, List.getD_cons_zero, List.getD_cons_succ, List.length_cons, List.length_nil, List.mem_cons, List.not_mem_nil, List.mem_append, List.nil_append, List.cons_append, List.append_nil, List.take_succ_cons, List.take_zero, List.drop_succ_cons, List.drop_zero, List.set_cons_zero, List.set_cons_succ, List.map_cons, List.map_nil, implies_true, forall_const, ne_eq, hnt3, encN_length, encN_take, lvS_next, lvS_8, lvS_9, lvS_p8, lvS_p9, if_true, if_false, Bool.false_eq_true, hyl2, List.length_append, List.length_cons, List.length_nil, Int.natCast_nonneg, Int.toNat_natCast]
        refine hgo_sound 20 ?_
        simp -implicitDefEqProofs (maxSteps := 1000000) only [simpS, ↓condJ_true, ↓condJ_false, ↓reduceIte, Nat.reduceEqDiff, Nat.reduceLT, Nat.reduceLeDiff, reduceCtorEq, Nat.reduceAdd, Nat.reduceSub, Option.map_some, if_true, if_false, List.getD_cons_zero, List.getD_cons_succ, List.length_cons, List.length_nil, List.mem_cons, List.not_mem_nil, List.mem_append, List.nil_append, List.cons_append, List.append_nil, List.take_succ_cons, List.take_zero, List.drop_succ_cons, List.drop_zero, List.set_cons_zero, List.set_cons_succ, List.map_cons, List.map_nil, implies_true, forall_const, ne_eq, hwr]
        intro hw2 hl2 hn2
        refine ⟨⟨j + 1, ys ++ [x]⟩, ⟨by simp only; omega, by simpa using j4⟩, by simp only; omega, ?_⟩
        refine Drop.allS (((Ext.refl _).new _).sub (lvS_wf H.hwf _ _ _ _ _)) (lvS_wf H.hwf _ _ _ _ _) (by rw [H.hnx, lvS_next]; omega) ⟨⟨rfl, trivial⟩, ⟨rfl, ?_⟩, ⟨rfl, ?_⟩, ⟨rfl, ?_⟩, ⟨rfl, ?_⟩, ⟨rfl, ⟨trivial, encK_lt _ _⟩⟩, ⟨rfl, ?_⟩, ⟨rfl, ?_⟩, ⟨rfl, ⟨?_, map_stp_lt _ _⟩⟩, ⟨rfl, trivial⟩, ⟨rfl, trivial⟩, trivial⟩
        all_goals (simp only [D.lt, Own.lt, lvS_next]; omega)
    · have hkd : (x.kind == 1) = false := by simp [hk]
      rw [if_neg hk] at j4
      refine hgo_sound 60 ?_
      simp -implicitDefEqProofs (maxSteps := 1000000) only [simpS, ↓condJ_true, ↓condJ_false, ↓reduceIte, Nat.reduceEqDiff, Nat.reduceLT, Nat.reduceLeDiff, reduceCtorEq, Nat.reduceAdd, Nat.reduceSub, Option.map_some, if_true, if_false, List.getD_cons_zero, List.getD_cons_succ, List.length_cons, List.length_nil, List.mem_cons, List.not_mem_nil, List.mem_append, List.nil_append, List.cons_append, List.append_nil, List.take_succ_cons, List.take_zero, List.drop_succ_cons, List.drop_zero, List.set_cons_zero, List.set_cons_succ, List.map_cons, List.map_nil, implies_true, forall_const, ne_eq, hjd, hjp, Int.toNat_natCast, Int.natCast_nonneg, hget, stp, encN_length, encN_take, encN_kind, lvS_next, hwr, hkd]
      intro hw2 hl2 hn2
      refine ⟨⟨j + 1, ys⟩, ⟨by simp only; omega, j4⟩, by simp only; omega, ?_⟩
      refine Drop.allS (((Ext.refl _).new _).sub (lvS_wf H.hwf _ _ _ _ _)) (lvS_wf H.hwf _ _ _ _ _) (by rw [H.hnx, lvS_next]; omega) ⟨⟨rfl, trivial⟩, ⟨rfl, ?_⟩, ⟨rfl, ?_⟩, ⟨rfl, ?_⟩, ⟨rfl, ?_⟩, ⟨rfl, ⟨trivial, encK_lt _ _⟩⟩, ⟨rfl, ?_⟩, ⟨rfl, ?_⟩, ⟨rfl, ⟨?_, map_stp_lt _ _⟩⟩, ⟨rfl, trivial⟩, ⟨rfl, trivial⟩, trivial⟩
      all_goals (simp only [D.lt, Own.lt, lvS_next]; omega)
  · have hjd : decide (((j : Nat) : Int) < ((W.map stp).length : Int)) = false := by simp [hjc, hj]
    have hd1 : W.drop j = [] := List.drop_eq_nil_of_le (by omega)
    rw [hd1] at j4
    simp only [leavesL, List.append_nil] at j4
    subst j4
    have := rest M H
    refine hgo_sound 7 ?_
    simp -implicitDefEqProofs (maxSteps := 1000000) only [simpS, ↓condJ_true, ↓condJ_false, ↓reduceIte, Nat.reduceEqDiff, Nat.reduceLT, Nat.reduceLeDiff, reduceCtorEq, Nat.reduceAdd, Nat.reduceSub, Option.map_some, if_true, if_false, List.getD_cons_zero, List.getD_cons_succ, List.length_cons, List.length_nil, List.mem_cons, List.not_mem_nil, List.mem_append, List.nil_append, List.cons_append, List.append_nil, List.take_succ_cons, List.take_zero, List.drop_succ_cons, List.drop_zero, List.set_cons_zero, List.set_cons_succ, List.map_cons, List.map_nil, implies_true, forall_const, ne_eq, hjd]
    refine hx_env (wkE3 σ z P) ?_ this (fun _ e => by cases e) (fun _ e => by cases e)
    exact ⟨fun _ _ _ h => h, fun _ _ _ h => h, fun _ _ _ h => h, fun _ _ _ h => h, fun _ _ _ h => h, fun _ _ _ h => h, fun _ _ _ h => h, fun _ _ _ h => h, trivial⟩

end Go.Hl
