/-
  Layer 6: strings.Builder; a token's text; Join.
-/
import Derived.Test.YteffbibilpbhjaaDoorLxH
set_option linter.unusedSectionVars false
set_option linter.unusedVariables false
set_option linter.unusedSimpArgs false
set_option maxRecDepth 100000
namespace Go.Hl
open Go Go.Proofs Go.RowKit

theorem noEscape_calls (d : D) (σ : St) : HCalls Tryd.prog 60 [d] σ (fun d' σ' => d' = d ∧ σ' = σ) := by
  intro g w vs hr hl
  simp only [RL] at hl
  obtain ⟨v, us, rfl, hv, rfl⟩ := hl
  have hf : Tryd.prog.funcs[60]? = some Tryd.f60 := rfl
  have hrun : (callFunc 60 #[v]).run Tryd.prog w = .ok (.value v) w := by kernel_rfl
  show NextOk Tryd.prog _ ((callFunc 60 #[v]).run Tryd.prog w)
  rw [hrun]
  exact ⟨d, g, σ, E.refl g w hr.gw, hr, hv, rfl, rfl⟩

/-- Bytes, as a slice has them. -/
def bytesL (s : ByteArray) : List (List D) := s.data.toList.map fun b => [.int .u8 (b.toNat : Int)]

theorem bytesL_length (s : ByteArray) : (bytesL s).length = s.size := by
  simp only [bytesL, List.length_map, Array.length_toList]; rfl
theorem bytesL_append (s t : ByteArray) : bytesL s ++ bytesL t = bytesL (s ++ t) := by
  simp [bytesL]
theorem bytesL_ok (s : ByteArray) : bytesOk (bytesL s) := by
  unfold bytesL
  generalize s.data.toList = l
  induction l with
  | nil => trivial
  | cons b l ih => exact ⟨⟨b, rfl⟩, ih⟩
theorem bytesD_L (s : ByteArray) : bytesD (bytesL s) = s := by
  unfold bytesD bytesL
  have : ∀ l : List UInt8, (l.map fun b => [D.int .u8 (b.toNat : Int)]).map byteOf = l := fun l => by
    induction l with
    | nil => rfl
    | cons b l ih => simp [byteOf, ih]
  rw [this]
theorem bytesL_lt (n : Nat) (s : ByteArray) : ltX n (bytesL s) := by
  unfold bytesL
  generalize s.data.toList = l
  induction l with
  | nil => trivial
  | cons b l ih => exact ⟨⟨trivial, trivial⟩, ih⟩

theorem copyCheck_calls (id : Nat) (a b : D) (ha : a = .nilp ∨ a = .ptr id 0) (σ : St) (ho : σ.obj id = some (.bx (some 64) [a, b])) :
    HCalls Tryd.prog 51 [.ptr id 0] σ (fun _ σ' => σ' = σ.put id (.bx (some 64) [.ptr id 0, b])) := by
  refine hcalls_body (fn := Tryd.f51) rfl c51 (by simp [h51]) (by simp [h51, Tryd.f51]) ?_
  intro M hP hr hnt hnx hwf hlt
  have hid := (hwf.obj _ _ ho).1
  simp only [h51, argEnv]
  rcases ha with rfl | rfl
  · refine hgo_sound 40 ?_
    simp -implicitDefEqProofs (maxSteps := 1000000) only [simpS, ↓condJ_true, ↓condJ_false, ↓reduceIte, Nat.reduceEqDiff, Nat.reduceLT, Nat.reduceLeDiff, reduceCtorEq, Nat.reduceAdd, Nat.reduceSub, bindG_none, addG_none, hgrpK_none, nestK_none, hgrpK_guarded, Option.map_none, beq_self_eq_true, bne_self_eq_false, Option.map_some, if_true, if_false, List.getD_cons_zero, List.getD_cons_succ, List.length_cons, List.length_nil, List.mem_cons, List.not_mem_nil, List.mem_append, List.nil_append, List.cons_append, List.append_nil, List.take_succ_cons, List.take_zero, List.drop_succ_cons, List.drop_zero, List.set_cons_zero, List.set_cons_succ, List.map_cons, List.map_nil, implies_true, forall_const, ne_eq, ho]
    refine hx_call (f := .fn 60) rfl (by rw [hP]; exact hcallD_func (noEscape_calls _ _)) ?_
    rintro _ _ ⟨rfl, rfl⟩
    refine hgo_sound 40 ?_
    simp -implicitDefEqProofs (maxSteps := 1000000) only [simpS, ↓condJ_true, ↓condJ_false, ↓reduceIte, Nat.reduceEqDiff, Nat.reduceLT, Nat.reduceLeDiff, reduceCtorEq, Nat.reduceAdd, Nat.reduceSub, bindG_none, addG_none, hgrpK_none, nestK_none, hgrpK_guarded, Option.map_none, beq_self_eq_true, bne_self_eq_false, Option.map_some, if_true, if_false, List.getD_cons_zero, List.getD_cons_succ, List.length_cons, List.length_nil, List.mem_cons, List.not_mem_nil, List.mem_append, List.nil_append, List.cons_append, List.append_nil, List.take_succ_cons, List.take_zero, List.drop_succ_cons, List.drop_zero, List.set_cons_zero, List.set_cons_succ, List.map_cons, List.map_nil, implies_true, forall_const, ne_eq, ho]
    exact fpost_keep (.inl rfl) rfl trivial (fun _ => by simp only [tupD, D.lt, ltL]) fun hw => rfl
  · refine hgo_sound 40 ?_
    simp -implicitDefEqProofs (maxSteps := 1000000) only [simpS, ↓condJ_true, ↓condJ_false, ↓reduceIte, Nat.reduceEqDiff, Nat.reduceLT, Nat.reduceLeDiff, reduceCtorEq, Nat.reduceAdd, Nat.reduceSub, bindG_none, addG_none, hgrpK_none, nestK_none, hgrpK_guarded, Option.map_none, beq_self_eq_true, bne_self_eq_false, Option.map_some, if_true, if_false, List.getD_cons_zero, List.getD_cons_succ, List.length_cons, List.length_nil, List.mem_cons, List.not_mem_nil, List.mem_append, List.nil_append, List.cons_append, List.append_nil, List.take_succ_cons, List.take_zero, List.drop_succ_cons, List.drop_zero, List.set_cons_zero, List.set_cons_succ, List.map_cons, List.map_nil, implies_true, forall_const, ne_eq, ho]
    exact fpost_keep (.inl rfl) rfl trivial (fun _ => by simp only [tupD, D.lt, ltL]) fun hw => (put_self ho).symm

/-- The store where Builder id holds s. -/
theorem writeString_calls (id t n : Nat) (a : D) (s x : ByteArray) (ha : a = .nilp ∨ a = .ptr id 0) (σ : St) (ho : σ.obj id = some (.bx (some 64) [a, .slice (.tok t) 1 (bytesL s)])) (hne : id ≠ t)
    (ht : σ.obj t = some (.tok 5 n)) (hn : n = s.size) (hmax : s.size + x.size ≤ 140737488355328) :
    HCalls Tryd.prog 30 [.ptr id 0, .str x] σ (fun _ σ' => σ' = (σ.put t (.tok 5 (n + x.size))).put id (.bx (some 64) [.ptr id 0, .slice (.tok t) 1 (bytesL (s ++ x))])) := by
  refine hcalls_body (fn := Tryd.f30) rfl c30 (by simp [h30]) (by simp [h30, Tryd.f30]) ?_
  intro M hP hr hnt hnx hwf hlt
  simp only [h30, argEnv]
  refine hgo_sound 40 ?_
  simp -implicitDefEqProofs (maxSteps := 1000000) only [simpS, ↓condJ_true, ↓condJ_false, ↓reduceIte, Nat.reduceEqDiff, Nat.reduceLT, Nat.reduceLeDiff, reduceCtorEq, Nat.reduceAdd, Nat.reduceSub, bindG_none, addG_none, hgrpK_none, nestK_none, hgrpK_guarded, Option.map_none, beq_self_eq_true, bne_self_eq_false, Option.map_some, if_true, if_false, List.getD_cons_zero, List.getD_cons_succ, List.length_cons, List.length_nil, List.mem_cons, List.not_mem_nil, List.mem_append, List.nil_append, List.cons_append, List.append_nil, List.take_succ_cons, List.take_zero, List.drop_succ_cons, List.drop_zero, List.set_cons_zero, List.set_cons_succ, List.map_cons, List.map_nil, implies_true, forall_const, ne_eq]
  refine hx_call (f := .fn 51) rfl (by rw [hP]; exact hcallD_func (copyCheck_calls id a _ ha σ ho)) ?_
  rintro _ _ rfl
  have hxl : (List.map (fun b => [D.int IntKind.u8 (b.toNat : Int)]) x.data.toList).length = x.size := bytesL_length x
  have hb1 : (s.size + x.size) * 1 ≤ 140737488355328 := by omega
  have hb2 : s.size + x.size ≤ 9223372036854775807 := by omega
  refine hgo_sound 60 ?_
  simp -implicitDefEqProofs (maxSteps := 1000000) only [simpS, ↓condJ_true, ↓condJ_false, ↓reduceIte, Nat.reduceEqDiff, Nat.reduceLT, Nat.reduceLeDiff, reduceCtorEq, Nat.reduceAdd, Nat.reduceSub, bindG_none, addG_none, hgrpK_none, nestK_none, hgrpK_guarded, Option.map_none, beq_self_eq_true, bne_self_eq_false, Option.map_some, if_true, if_false, List.getD_cons_zero, List.getD_cons_succ, List.length_cons, List.length_nil, List.mem_cons, List.not_mem_nil, List.mem_append, List.nil_append, List.cons_append, List.append_nil, List.take_succ_cons, List.take_zero, List.drop_succ_cons, List.drop_zero, List.set_cons_zero, List.set_cons_succ, List.map_cons, List.map_nil, implies_true, forall_const, ne_eq, hne, Ne.symm hne, ht, bytesL_length, hxl, hb1, hb2, hn]
  refine fpost_keep (.inr rfl) rfl trivial (fun _ => ⟨trivial, trivial, trivial⟩) fun hw => ?_
  refine St.ext' (fun j => ?_) rfl rfl
  simp only [St.obj_put, bytesL_append, ← bytesL_append]
  by_cases q : j = id
  · simp [q]; rfl
  · simp [q]

theorem bstring_calls (id t n : Nat) (a : D) (s : ByteArray) (σ : St) (ho : σ.obj id = some (.bx (some 64) [a, .slice (.tok t) 1 (bytesL s)]))
    (ht : σ.obj t = some (.tok 5 n)) (hn : n = s.size) (hmax : s.size ≤ 140737488355328) :
    HCalls Tryd.prog 31 [.ptr id 0] σ (fun d σ' => d = .str s ∧ σ' = σ) := by
  refine hcalls_body (fn := Tryd.f31) rfl c31 (by simp [h31]) (by simp [h31, Tryd.f31]) ?_
  intro M hP hr hnt hnx hwf hlt
  simp only [h31, argEnv]
  have hnt' : M.nt = 14 := hnt
  refine hgo_sound 40 ?_
  simp -implicitDefEqProofs (maxSteps := 1000000) only [simpS, ↓condJ_true, ↓condJ_false, ↓reduceIte, Nat.reduceEqDiff, Nat.reduceLT, Nat.reduceLeDiff, reduceCtorEq, Nat.reduceAdd, Nat.reduceSub, bindG_none, addG_none, hgrpK_none, nestK_none, hgrpK_guarded, Option.map_none, beq_self_eq_true, bne_self_eq_false, Option.map_some, if_true, if_false, List.getD_cons_zero, List.getD_cons_succ, List.length_cons, List.length_nil, List.mem_cons, List.not_mem_nil, List.mem_append, List.nil_append, List.cons_append, List.append_nil, List.take_succ_cons, List.take_zero, List.drop_succ_cons, List.drop_zero, List.set_cons_zero, List.set_cons_succ, List.map_cons, List.map_nil, implies_true, forall_const, ne_eq]
  refine hx_drawgo 5 ?_
  have hbo := bytesL_ok s
  have hmx : s.size ≤ 9223372036854775807 := by omega
  simp -implicitDefEqProofs only [drawS, List.map_cons, List.map_nil, List.getElem?_cons_zero, List.getElem?_cons_succ, List.getElem?_nil, simpS, ↓condJ_true, ↓condJ_false, ↓reduceIte, Nat.reduceEqDiff, Nat.reduceLT, Nat.reduceLeDiff, reduceCtorEq, Nat.reduceAdd, Nat.reduceSub, bindG_none, addG_none, hgrpK_none, nestK_none, hgrpK_guarded, Option.map_none, beq_self_eq_true, bne_self_eq_false, Option.map_some, if_true, if_false, List.getD_cons_zero, List.getD_cons_succ, List.length_cons, List.length_nil, List.mem_cons, List.not_mem_nil, List.mem_append, List.nil_append, List.cons_append, List.append_nil, List.take_succ_cons, List.take_zero, List.drop_succ_cons, List.drop_zero, List.set_cons_zero, List.set_cons_succ, List.map_cons, List.map_nil, implies_true, forall_const, ne_eq, hnt', ho, ht, hn, bytesL_length, hbo, hmx, bytesD_L]
  refine hgo_sound 5 ?_
  simp -implicitDefEqProofs (maxSteps := 1000000) only [simpS, ↓condJ_true, ↓condJ_false, ↓reduceIte, Nat.reduceEqDiff, Nat.reduceLT, Nat.reduceLeDiff, reduceCtorEq, Nat.reduceAdd, Nat.reduceSub, bindG_none, addG_none, hgrpK_none, nestK_none, hgrpK_guarded, Option.map_none, beq_self_eq_true, bne_self_eq_false, Option.map_some, if_true, if_false, List.getD_cons_zero, List.getD_cons_succ, List.length_cons, List.length_nil, List.mem_cons, List.not_mem_nil, List.mem_append, List.nil_append, List.cons_append, List.append_nil, List.take_succ_cons, List.take_zero, List.drop_succ_cons, List.drop_zero, List.set_cons_zero, List.set_cons_succ, List.map_cons, List.map_nil, implies_true, forall_const, ne_eq]
  exact fpost_keep (.inr rfl) rfl trivial (fun _ => trivial) fun hw => ⟨rfl, rfl⟩

/-! ### A token's text -/

def textT (s : ByteArray) (x : Tk3) : ByteArray := s.extract x.f x.t

theorem ttext_calls (s : ByteArray) (x : Tk3) (h1 : x.f ≤ x.t) (h2 : x.t ≤ s.size) (σ : St) : HCalls Tryd.prog 15 [.agg (encK3 x), .str s] σ (fun d σ' => d = .str (textT s x) ∧ σ' = σ) := by
  refine hcalls_body (fn := Tryd.f15) rfl c15 (by simp [h15]) (by simp [h15, Tryd.f15]) ?_
  intro M hP hr hnt hnx hwf hlt
  simp only [h15, argEnv]
  have d1 : decide ((x.f : Int) < 0) = false := decide_eq_false (by omega)
  have d2 : decide ((x.f : Int) > (x.t : Int)) = false := decide_eq_false (by omega)
  have d3 : decide ((x.t : Int) > (s.size : Int)) = false := decide_eq_false (by omega)
  have p1 : (0 : Int) ≤ (x.t : Int) ∧ (x.t : Int) ≤ (s.size : Int) ∧ (0 : Int) ≤ (x.f : Int) ∧ (x.f : Int) ≤ (x.t : Int) := by omega
  refine hgo_sound 90 ?_
  simp -implicitDefEqProofs (maxSteps := 1000000) only [simpS, ↓condJ_true, ↓condJ_false, ↓reduceIte, Nat.reduceEqDiff, Nat.reduceLT, Nat.reduceLeDiff, reduceCtorEq, Nat.reduceAdd, Nat.reduceSub, bindG_none, addG_none, hgrpK_none, nestK_none, hgrpK_guarded, Option.map_none, beq_self_eq_true, bne_self_eq_false, Option.map_some, if_true, if_false, List.getD_cons_zero, List.getD_cons_succ, List.length_cons, List.length_nil, List.mem_cons, List.not_mem_nil, List.mem_append, List.nil_append, List.cons_append, List.append_nil, List.take_succ_cons, List.take_zero, List.drop_succ_cons, List.drop_zero, List.set_cons_zero, List.set_cons_succ, List.map_cons, List.map_nil, implies_true, forall_const, ne_eq, d1, d2, d3, p1.1, p1.2.1, p1.2.2.1, p1.2.2.2, Int.toNat_natCast]
  exact fpost_pure (σ0 := σ) (.inr rfl) (by rw [hnx]; exact Nat.le_refl _) hwf (by first | exact Sub.refl σ | exact (((Ext.refl _).new _).sub hwf)) rfl trivial (by repeat' (first | trivial | apply And.intro)) ⟨rfl, rfl⟩

def joinT (s : ByteArray) : List Tk3 → ByteArray
  | [] => ⟨#[]⟩
  | x :: r => textT s x ++ joinT s r
def joinF (s c : ByteArray) : List Tk3 → ByteArray
  | [] => c
  | x :: r => joinF s (c ++ textT s x) r
theorem joinF_eq (s : ByteArray) : ∀ (l : List Tk3) (c : ByteArray), joinF s c l = c ++ joinT s l
  | [], c => by
    simp only [joinF, joinT]
    exact (ByteArray.append_empty).symm
  | x :: r, c => by
    simp only [joinF, joinT]
    rw [joinF_eq s r, ByteArray.append_assoc]

structure JnS where
  i : Nat
  c : ByteArray

def addrB (id : Nat) : Bool → D
  | true => .ptr id 0
  | false => .nilp
def jnS (σ : St) (t : JnS) : St := (σ.new (.bx (some 64) [addrB σ.next (decide (0 < t.i)), .slice (.tok (σ.next + 1)) 1 (bytesL t.c)])).new (.tok 5 t.c.size)
theorem jnS_next (σ : St) (t : JnS) : (jnS σ t).next = σ.next + 2 := rfl
theorem jnS_wf {σ : St} (hwf : σ.wf) (t : JnS) : (jnS σ t).wf := by
  refine St.wf.new2 hwf ?_ trivial
  refine ⟨?_, ⟨?_, bytesL_lt _ _⟩, trivial⟩
  · cases decide (0 < t.i)
    · trivial
    · show σ.next < σ.next + 2
      omega
  · show σ.next + 1 < σ.next + 2
    omega

theorem joinT_size (s : ByteArray) : ∀ l : List Tk3, (joinT s l).size ≤ l.length * s.size
  | [] => by
    simp only [joinT, List.length_nil, Nat.zero_mul]
    exact Nat.le_refl _
  | x :: r => by
    have := joinT_size s r
    have h2 : (textT s x).size ≤ s.size := by unfold textT; rw [ByteArray.size_extract]; omega
    simp only [joinT, ByteArray.size_append, List.length_cons, Nat.succ_mul]
    omega

theorem join_calls (s : ByteArray) (l : List Tk3) (hl : ∀ x ∈ l, x.f ≤ x.t ∧ x.t ≤ s.size) (hm : l.length ≤ 1048576) (hs : s.size ≤ 1048576) (σ : St) :
    HCalls Tryd.prog 20 [.str s, .slice .no 3 (encTk l)] σ (fun d σ' => d = .str (joinT s l) ∧ σ' = σ) := by
  refine hcalls_body (fn := Tryd.f20) rfl c20 (by simp [h20]) (by simp [h20, Tryd.f20]) ?_
  intro M hP hr hnt hnx hwf hlt
  simp only [h20, argEnv]
  have hstep : ∀ i (h : i < l.length), joinT s (l.take (i + 1)) = joinT s (l.take i) ++ textT s l[i] := fun i h => by
    rw [List.take_succ_eq_append_getElem h]
    generalize l.take i = a
    induction a with
    | nil => simp only [List.nil_append, joinT]; exact (ByteArray.append_empty).trans (ByteArray.empty_append).symm
    | cons x r ih => simp only [List.cons_append, joinT, ih, ByteArray.append_assoc]
  refine hgo_sound 8 ?_
  simp -implicitDefEqProofs (maxSteps := 1000000) only [simpS, ↓condJ_true, ↓condJ_false, ↓reduceIte, Nat.reduceEqDiff, Nat.reduceLT, Nat.reduceLeDiff, reduceCtorEq, Nat.reduceAdd, Nat.reduceSub, bindG_none, addG_none, hgrpK_none, nestK_none, hgrpK_guarded, Option.map_none, beq_self_eq_true, bne_self_eq_false, Option.map_some, if_true, if_false, List.getD_cons_zero, List.getD_cons_succ, List.length_cons, List.length_nil, List.mem_cons, List.not_mem_nil, List.mem_append, List.nil_append, List.cons_append, List.append_nil, List.take_succ_cons, List.take_zero, List.drop_succ_cons, List.drop_zero, List.set_cons_zero, List.set_cons_succ, List.map_cons, List.map_nil, implies_true, forall_const, ne_eq]
  refine hx_full_box (id := σ.next) (j := 1) (cs := [.nilp, .slice .nil 0 []]) (ot := some 64) 5 1 (by simp -implicitDefEqProofs (maxSteps := 1000000) only [simpS, ↓condJ_true, ↓condJ_false, ↓reduceIte, Nat.reduceEqDiff, Nat.reduceLT, Nat.reduceLeDiff, reduceCtorEq, Nat.reduceAdd, Nat.reduceSub, bindG_none, addG_none, hgrpK_none, nestK_none, hgrpK_guarded, Option.map_none, beq_self_eq_true, bne_self_eq_false, Option.map_some, if_true, if_false, List.getD_cons_zero, List.getD_cons_succ, List.length_cons, List.length_nil, List.mem_cons, List.not_mem_nil, List.mem_append, List.nil_append, List.cons_append, List.append_nil, List.take_succ_cons, List.take_zero, List.drop_succ_cons, List.drop_zero, List.set_cons_zero, List.set_cons_succ, List.map_cons, List.map_nil, implies_true, forall_const, ne_eq]) rfl ?_ (fun _ e => by cases e) (fun _ e => by cases e)
  refine hgo_sound 60 ?_
  simp -implicitDefEqProofs (maxSteps := 1000000) only [simpS, ↓condJ_true, ↓condJ_false, ↓reduceIte, Nat.reduceEqDiff, Nat.reduceLT, Nat.reduceLeDiff, reduceCtorEq, Nat.reduceAdd, Nat.reduceSub, bindG_none, addG_none, hgrpK_none, nestK_none, hgrpK_guarded, Option.map_none, beq_self_eq_true, bne_self_eq_false, Option.map_some, if_true, if_false, List.getD_cons_zero, List.getD_cons_succ, List.length_cons, List.length_nil, List.mem_cons, List.not_mem_nil, List.mem_append, List.nil_append, List.cons_append, List.append_nil, List.take_succ_cons, List.take_zero, List.drop_succ_cons, List.drop_zero, List.set_cons_zero, List.set_cons_succ, List.map_cons, List.map_nil, implies_true, forall_const, ne_eq, encTk_length]
  refine hx_know_code fun hw hl1 hn => ?_
  have h0 : (σ.new (.bx (some 64) [.nilp, .slice (.tok (σ.next + 1)) 1 []])).new (.tok 5 0) = jnS σ ⟨0, ⟨#[]⟩⟩ := rfl
  rw [h0] at hw hl1 hn ⊢
  refine hx_loop (S := JnS) (fun t => [(0, .str s), (5, .ptr σ.next 0), (8, .slice .no 3 (encTk l)), (9, .int .i64 (l.length : Int)), (10, .int .i64 (t.i : Int))]) (fun t => jnS σ t)
    (fun t => t.i ≤ l.length ∧ t.c = joinT s (l.take t.i)) (fun t => l.length - t.i) ⟨0, ⟨#[]⟩⟩
    ⟨Nat.zero_le _, rfl⟩ (fun _ _ h => by rw [hr] at h; cases h) ?_ ?_
  · exact Drop.all hw hn ⟨⟨rfl, trivial⟩, ⟨rfl, hl1 5⟩, ⟨rfl, encTk_slt _ _⟩, ⟨rfl, trivial⟩, ⟨rfl, trivial⟩, trivial⟩
  rintro ⟨i, c⟩ ⟨i1, hc⟩
  simp only at i1 hc ⊢
  subst hc
  have hcs : (joinT s (l.take i)).size ≤ 1099511627776 := by
    have h1 := joinT_size s (l.take i)
    have h2 : (l.take i).length ≤ 1048576 := by rw [List.length_take]; omega
    have h3 : (l.take i).length * s.size ≤ 1048576 * 1048576 := Nat.mul_le_mul h2 hs
    omega
  by_cases hi : i < l.length
  · have hd : decide ((i : Int) < (l.length : Int)) = true := decide_eq_true (by omega)
    have hi' : (i : Int) < (l.length : Int) := by omega
    have hg := encTk_get l i hi
    have hx := hl l[i] (List.getElem_mem _)
    have hwi : IntKind.i64.wrap ((i : Int) + 1) = ((i + 1 : Nat) : Int) := by rw [IntWalk.i64_in _ (by omega)]; rfl
    have hts : (textT s l[i]).size ≤ s.size := by unfold textT; rw [ByteArray.size_extract]; omega
    refine hgo_sound 60 ?_
    simp -implicitDefEqProofs (maxSteps := 1000000) only [simpS, ↓condJ_true, ↓condJ_false, ↓reduceIte, Nat.reduceEqDiff, Nat.reduceLT, Nat.reduceLeDiff, reduceCtorEq, Nat.reduceAdd, Nat.reduceSub, bindG_none, addG_none, hgrpK_none, nestK_none, hgrpK_guarded, Option.map_none, beq_self_eq_true, bne_self_eq_false, Option.map_some, if_true, if_false, List.getD_cons_zero, List.getD_cons_succ, List.length_cons, List.length_nil, List.mem_cons, List.not_mem_nil, List.mem_append, List.nil_append, List.cons_append, List.append_nil, List.take_succ_cons, List.take_zero, List.drop_succ_cons, List.drop_zero, List.set_cons_zero, List.set_cons_succ, List.map_cons, List.map_nil, implies_true, forall_const, ne_eq, hd, hi', hi, hg, jnS_next, encTk_length, Int.toNat_natCast, Int.natCast_nonneg]
    refine hx_call (f := .fn 15) rfl (by rw [hP]; exact hcallD_func (ttext_calls s l[i] hx.1 hx.2 _)) ?_
    rintro _ σ2 ⟨rfl, h⟩
    subst σ2
    refine hgo_sound 60 ?_
    simp -implicitDefEqProofs (maxSteps := 1000000) only [simpS, ↓condJ_true, ↓condJ_false, ↓reduceIte, Nat.reduceEqDiff, Nat.reduceLT, Nat.reduceLeDiff, reduceCtorEq, Nat.reduceAdd, Nat.reduceSub, bindG_none, addG_none, hgrpK_none, nestK_none, hgrpK_guarded, Option.map_none, beq_self_eq_true, bne_self_eq_false, Option.map_some, if_true, if_false, List.getD_cons_zero, List.getD_cons_succ, List.length_cons, List.length_nil, List.mem_cons, List.not_mem_nil, List.mem_append, List.nil_append, List.cons_append, List.append_nil, List.take_succ_cons, List.take_zero, List.drop_succ_cons, List.drop_zero, List.set_cons_zero, List.set_cons_succ, List.map_cons, List.map_nil, implies_true, forall_const, ne_eq]
    refine hx_call (f := .fn 30) rfl (by rw [hP]; exact hcallD_func (writeString_calls σ.next (σ.next + 1) (joinT s (l.take i)).size (addrB σ.next (decide (0 < i))) (joinT s (l.take i)) (textT s l[i]) (by cases decide (0 < i) <;> simp [addrB]) _ (by simp [jnS, St.obj_new, St.next_new, show ¬ σ.next = σ.next + 1 + 1 by omega]) (by omega) (by simp [jnS, St.obj_new, St.next_new]) rfl (by omega))) ?_
    rintro d σ2 rfl
    refine hgo_sound 60 ?_
    simp -implicitDefEqProofs (maxSteps := 1000000) only [simpS, ↓condJ_true, ↓condJ_false, ↓reduceIte, Nat.reduceEqDiff, Nat.reduceLT, Nat.reduceLeDiff, reduceCtorEq, Nat.reduceAdd, Nat.reduceSub, bindG_none, addG_none, hgrpK_none, nestK_none, hgrpK_guarded, Option.map_none, beq_self_eq_true, bne_self_eq_false, Option.map_some, if_true, if_false, List.getD_cons_zero, List.getD_cons_succ, List.length_cons, List.length_nil, List.mem_cons, List.not_mem_nil, List.mem_append, List.nil_append, List.cons_append, List.append_nil, List.take_succ_cons, List.take_zero, List.drop_succ_cons, List.drop_zero, List.set_cons_zero, List.set_cons_succ, List.map_cons, List.map_nil, implies_true, forall_const, ne_eq, hwi, jnS_next]
    intro hw5 hl5 hn5
    refine ⟨⟨i + 1, joinT s (l.take (i + 1))⟩, ⟨by simp only; omega, rfl⟩, by simp only; omega, ?_⟩
    refine Drop.allS ⟨by simp only [jnS_next, St.next_put, St.next_new]; omega, fun id o ho => ?_, rfl⟩ (jnS_wf hwf _) (by rw [hnx, jnS_next]; omega) ⟨⟨rfl, trivial⟩, ⟨rfl, by simp only [D.lt, jnS_next]; omega⟩, ⟨rfl, encTk_slt _ _⟩, ⟨rfl, trivial⟩, ⟨rfl, trivial⟩, trivial⟩
    have hlt2 := ((jnS_wf hwf _).obj id o ho).1
    rw [jnS_next] at hlt2
    simp only [jnS, St.obj_put, St.obj_new, St.next_new, St.next_put, hstep i hi, ByteArray.size_append] at ho ⊢
    have hp0 : decide (0 < i + 1) = true := by simp
    by_cases q1 : id = σ.next + 1
    · subst q1; simpa [addrB] using ho
    · by_cases q2 : id = σ.next
      · subst q2
        have q3 : ¬ σ.next = σ.next + 1 + 1 := by omega
        simpa [addrB, hp0, q3] using ho
      · have q3 : ¬ id = σ.next + 1 + 1 := by omega
        simpa [q1, q2, q3] using ho
  · have hd : decide ((i : Int) < (l.length : Int)) = false := decide_eq_false (by omega)
    have hta : l.take i = l := List.take_of_length_le (by omega)
    rw [hta] at hcs ⊢
    refine hgo_sound 60 ?_
    simp -implicitDefEqProofs (maxSteps := 1000000) only [simpS, ↓condJ_true, ↓condJ_false, ↓reduceIte, Nat.reduceEqDiff, Nat.reduceLT, Nat.reduceLeDiff, reduceCtorEq, Nat.reduceAdd, Nat.reduceSub, bindG_none, addG_none, hgrpK_none, nestK_none, hgrpK_guarded, Option.map_none, beq_self_eq_true, bne_self_eq_false, Option.map_some, if_true, if_false, List.getD_cons_zero, List.getD_cons_succ, List.length_cons, List.length_nil, List.mem_cons, List.not_mem_nil, List.mem_append, List.nil_append, List.cons_append, List.append_nil, List.take_succ_cons, List.take_zero, List.drop_succ_cons, List.drop_zero, List.set_cons_zero, List.set_cons_succ, List.map_cons, List.map_nil, implies_true, forall_const, ne_eq, hd]
    refine hx_call (f := .fn 31) rfl (by rw [hP]; exact hcallD_func (bstring_calls σ.next (σ.next + 1) (joinT s l).size (addrB σ.next (decide (0 < i))) (joinT s l) _ (by simp [jnS, St.obj_new, St.next_new]) (by simp [jnS, St.obj_new, St.next_new]) rfl (by omega))) ?_
    rintro _ σ2 ⟨rfl, h⟩
    subst σ2
    refine hgo_sound 60 ?_
    simp -implicitDefEqProofs (maxSteps := 1000000) only [simpS, ↓condJ_true, ↓condJ_false, ↓reduceIte, Nat.reduceEqDiff, Nat.reduceLT, Nat.reduceLeDiff, reduceCtorEq, Nat.reduceAdd, Nat.reduceSub, bindG_none, addG_none, hgrpK_none, nestK_none, hgrpK_guarded, Option.map_none, beq_self_eq_true, bne_self_eq_false, Option.map_some, if_true, if_false, List.getD_cons_zero, List.getD_cons_succ, List.length_cons, List.length_nil, List.mem_cons, List.not_mem_nil, List.mem_append, List.nil_append, List.cons_append, List.append_nil, List.take_succ_cons, List.take_zero, List.drop_succ_cons, List.drop_zero, List.set_cons_zero, List.set_cons_succ, List.map_cons, List.map_nil, implies_true, forall_const, ne_eq]
    exact fpost_pure (σ0 := σ) (.inr rfl) (by rw [hnx]; exact Nat.le_refl _) hwf ((((Ext.refl _).new _).new _).sub hwf) rfl trivial trivial ⟨rfl, rfl⟩

end Go.Hl
