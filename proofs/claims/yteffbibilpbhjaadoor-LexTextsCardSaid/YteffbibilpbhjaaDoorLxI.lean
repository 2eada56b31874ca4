/-
  Layer 6: strings.Builder; a token's text; Join.
-/
import Derived.Test.YteffbibilpbhjaaDoorLxH
set_option linter.unusedSectionVars false
set_option linter.unusedVariables false
set_option linter.unusedSimpArgs false
set_option maxRecDepth 100000
namespace Go.Hl
open Go Go.Proofs Go.RowKit

theorem noEscape_calls (d : D) (σ : St) : HCalls Tryd.prog 60 [d] σ (fun d' σ' => d' = d ∧ σ' = σ) := by
  intro g w vs hr hl
  simp only [RL] at hl
  obtain ⟨v, us, rfl, hv, rfl⟩ := hl
  have hf : Tryd.prog.funcs[60]? = some Tryd.f60 := rfl
  have hrun : (callFunc 60 #[v]).run Tryd.prog w = .ok (.value v) w := by kernel_rfl
  show NextOk Tryd.prog _ ((callFunc 60 #[v]).run Tryd.prog w)
  rw [hrun]
  exact ⟨d, g, σ, E.refl g w hr.gw, hr, hv, rfl, rfl⟩

def bytesL (s : ByteArray) : List (List D) := s.data.toList.map fun b => [.int .u8 (b.toNat : Int)]

theorem bytesL_length (s : ByteArray) : (bytesL s).length = s.size := by
  simp only [bytesL, List.length_map, Array.length_toList]; rfl
theorem bytesL_append (s t : ByteArray) : bytesL s ++ bytesL t = bytesL (s ++ t) := by
  simp [bytesL]
theorem bytesL_ok (s : ByteArray) : bytesOk (bytesL s) := by
  unfold bytesL
  generalize s.data.toList = l
  induction l with
  | nil => trivial
  | cons b l ih => exact ⟨⟨b, rfl⟩, ih⟩
theorem bytesD_L (s : ByteArray) : bytesD (bytesL s) = s := by
  unfold bytesD bytesL
  have : ∀ l : List UInt8, (l.map fun b => [D.int .u8 (b.toNat : Int)]).map byteOf = l := fun l => by
    induction l with
    | nil => rfl
    | cons b l ih => simp [byteOf, ih]
  rw [this]
theorem bytesL_lt (n : Nat) (s : ByteArray) : ltX n (bytesL s) := by
  unfold bytesL
  generalize s.data.toList = l
  induction l with
  | nil => trivial
  | cons b l ih => exact ⟨⟨trivial, trivial⟩, ih⟩

theorem copyCheck_calls (id : Nat) (a b : D) (ha : a = .nilp ∨ a = .ptr id 0) (σ : St) (ho : σ.obj id = some (.bx (some 64) [a, b])) :
    HCalls Tryd.prog 51 [.ptr id 0] σ (fun _ σ' => σ' = σ.put id (.bx (some 64) [.ptr id 0, b])) := by
  refine hcalls_body (fn := Tryd.f51) rfl c51 (by simp [h51]) (by simp [h51, Tryd.f51]) ?_
  intro M hP hr hnt hnx hwf hlt
  have hid := (hwf.obj _ _ ho).1
  simp only [h51, argEnv]
  rcases ha with rfl | rfl
  · refine hgo_sound 40 ?_
    simp -implicitDefEqProofs (maxSteps := 1000000) only [simpS, ↓condJ_true, ↓condJ_false, ↓reduceIte, Nat.reduceEqDiff, Nat.reduceLT, Nat.reduceLeDiff, reduceCtorEq, Nat.reduceAdd, Nat.reduceSub, bindG_none, addG_none, hgrpK_none, nestK_none, hgrpK_guarded, Option.map_none, beq_self_eq_true, bne_self_eq_false, Option.map_some, if_true, if_false, List.getD_cons_zero, List.getD_cons_succ, List.length_cons, List.length_nil, List.mem_cons, List.not_mem_nil, List.mem_append, List.nil_append, List.cons_append, List.append_nil, List.take_succ_cons, List.take_zero, List.drop_succ_cons, List.drop_zero, List.set_cons_zero, List.set_cons_succ, List.map_cons, List.map_nil, implies_true, forall_const, ne_eq, ho]
    refine hx_call (f := .fn 60) rfl (by rw [hP]; exact hcallD_func (noEscape_calls _ _)) ?_
    rintro _ _ ⟨rfl, rfl⟩
    refine hgo_sound 40 ?_
    simp -implicitDefEqProofs (maxSteps := 1000000) only [simpS, ↓condJ_true, ↓condJ_false, ↓reduceIte, Nat.reduceEqDiff, Nat.reduceLT, Nat.reduceLeDiff, reduceCtorEq, Nat.reduceAdd, Nat.reduceSub, bindG_none, addG_none, hgrpK_none, nestK_none, hgrpK_guarded, Option.map_none, beq_self_eq_true, bne_self_eq_false, Option.map_some, if_true, if_false, List.getD_cons_zero, List.getD_cons_succ, List.length_cons, List.length_nil, List.mem_cons, List.not_mem_nil, List.mem_append, List.nil_append, List.cons_append, List.append_nil, List.take_succ_cons, List.take_zero, List.drop_succ_cons, List.drop_zero, List.set_cons_zero, List.set_cons_succ, List.map_cons, List.map_nil, implies_true, forall_const, ne_eq, ho]
    exact fpost_keep (.inl rfl) rfl trivial (fun _ => by simp only [tupD, D.lt, ltL]) fun hw => rfl
  · refine hgo_sound 40 ?_
    simp -implicitDefEqProofs (maxSteps := 1000000) only [simpS, ↓condJ_true, ↓condJ_false, ↓reduceIte, Nat.reduceEqDiff, Nat.reduceLT, Nat.reduceLeDiff, reduceCtorEq, Nat.reduceAdd, Nat.reduceSub, bindG_none, addG_none, hgrpK_none, nestK_none, hgrpK_guarded, Option.map_none, beq_self_eq_true, bne_self_eq_false, Option.map_some, if_true, if_false, List.getD_cons_zero, List.getD_cons_succ, List.length_cons, List.length_nil, List.mem_cons, List.not_mem_nil, List.mem_append, List.nil_append, List.cons_append, List.append_nil, List.take_succ_cons, List.take_zero, List.drop_succ_cons, List.drop_zero, List.set_cons_zero, List.set_cons_succ, List.map_cons, List.map_nil, implies_true, forall_const, ne_eq, ho]
    exact fpost_keep (.inl rfl) rfl trivial (fun _ => by simp only [tupD, D.lt, ltL]) fun hw => (put_self ho).symm

theorem writeString_calls (id t n : Nat) (a : D) (s x : ByteArray) (ha : a = .nilp ∨ a = .ptr id 0) (σ : St) (ho : σ.obj id = some (.bx (some 64) [a, .slice (.tok t) 1 (bytesL s)])) (hne : id ≠ t)
    (ht : σ.obj t = some (.tok 5 n)) (hn : n = s.size) (hmax : s.size + x.size ≤ 140737488355328) :
    HCalls Tryd.prog 30 [.ptr id 0, .str x] σ (fun _ σ' => σ' = (σ.put t (.tok 5 (n + x.size))).put id (.bx (some 64) [.ptr id 0, .slice (.tok t) 1 (bytesL (s ++ x))])) := by
  refine hcalls_body (fn := Tryd.f30) rfl c30 (by simp [h30]) (by simp [h30, Tryd.f30]) ?_
  intro M hP hr hnt hnx hwf hlt
  simp only [h30, argEnv]
  refine hgo_sound 40 ?_
  simp -implicitDefEqProofs (maxSteps := 1000000) only [simpS, ↓condJ_true, ↓condJ_false, ↓reduceIte, Nat.reduceEqDiff, Nat.reduceLT, Nat.reduceLeDiff, reduceCtorEq, Nat.reduceAdd, Nat.reduceSub, bindG_none, addG_none, hgrpK_none, nestK_none, hgrpK_guarded, Option.map_none, beq_self_eq_true, bne_self_eq_false, Option.map_some, if_true, if_false, List.getD_cons_zero, List.getD_cons_succ, List.length_cons, List.length_nil, List.mem_cons, List.not_mem_nil, List.mem_append, List.nil_append, List.cons_append, List.append_nil, List.take_succ_cons, List.take_zero, List.drop_succ_cons, List.drop_zero, List.set_cons_zero, List.set_cons_succ, List.map_cons, List.map_nil, implies_true, forall_const, ne_eq]
  refine hx_call (f := .fn 51) rfl (by rw [hP]; exact hcallD_func (copyCheck_calls id a _ ha σ ho)) ?_
  rintro _ _ rfl
  have hxl : (List.map (fun b => [D.int IntKind.u8 (b.toNat : Int)]) x.data.toList).length = x.size := bytesL_length x
  have hb1 : (s.size + x.size) * 1 ≤ 140737488355328 := by omega
  have hb2 : s.size + x.size ≤ 9223372036854775807 := by omega
  refine hgo_sound 60 ?_
  simp -implicitDefEqProofs (maxSteps := 1000000) only [simpS, ↓condJ_true, ↓condJ_false, ↓reduceIte, Nat.reduceEqDiff, Nat.reduceLT, Nat.reduceLeDiff, reduceCtorEq, Nat.reduceAdd, Nat.reduceSub, bindG_none, addG_none, hgrpK_none, nestK_none, hgrpK_guarded, Option.map_none, beq_self_eq_true, bne_self_eq_false, Option.map_some, if_true, if_false, List.getD_cons_zero, List.getD_cons_succ, List.length_cons, List.length_nil, List.mem_cons, List.not_mem_nil, List.mem_append, List.nil_append, List.cons_append, List.append_nil, List.take_succ_cons, List.take_zero, List.drop_succ_cons, List.drop_zero, List.set_cons_zero, List.set_cons_succ, List.map_cons, List.map_nil, implies_true, forall_const, ne_eq, hne, Ne.symm hne, ht, bytesL_length, hxl, hb1, hb2, hn]
  refine fpost_keep (.inr rfl) rfl trivial (fun _ => ⟨trivial, trivial, trivial⟩) fun hw => ?_
  refine St.ext' (fun j => ?_) rfl rfl
  simp only [St.obj_put, bytesL_append, ← bytesL_append]
  by_cases q : j = id
  · simp [q]; rfl
  · simp [q]

theorem bstring_calls (id t n : Nat) (a : D) (s : ByteArray) (σ : St) (ho : σ.obj id = some (.bx (some 64) [a, .slice (.tok t) 1 (bytesL s)]))
    (ht : σ.obj t = some (.tok 5 n)) (hn : n = s.size) (hmax : s.size ≤ 140737488355328) :
    HCalls Tryd.prog 31 [.ptr id 0] σ (fun d σ' => d = .str s ∧ σ' = σ) := by
  refine hcalls_body (fn := Tryd.f31) rfl c31 (by simp [h31]) (by simp [h31, Tryd.f31]) ?_
  intro M hP hr hnt hnx hwf hlt
  simp only [h31, argEnv]
  have hnt' : M.nt = 14 := hnt
  refine hgo_sound 40 ?_
  simp -implicitDefEqProofs (maxSteps := 1000000) only [simpS, ↓condJ_true, ↓condJ_false, ↓reduceIte, Nat.reduceEqDiff, Nat.reduceLT, Nat.reduceLeDiff, reduceCtorEq, Nat.reduceAdd, Nat.reduceSub, bindG_none, addG_none, hgrpK_none, nestK_none, hgrpK_guarded, Option.map_none, beq_self_eq_true, bne_self_eq_false, Option.map_some, if_true, if_false, List.getD_cons_zero, List.getD_cons_succ, List.length_cons, List.length_nil, List.mem_cons, List.not_mem_nil, List.mem_append, List.nil_append, List.cons_append, List.append_nil, List.take_succ_cons, List.take_zero, List.drop_succ_cons, List.drop_zero, List.set_cons_zero, List.set_cons_succ, List.map_cons, List.map_nil, implies_true, forall_const, ne_eq]
  refine hx_drawgo 5 ?_
  have hbo := bytesL_ok s
  have hmx : s.size ≤ 9223372036854775807 := by omega
  simp -implicitDefEqProofs only [drawS, List.map_cons, List.map_nil, List.getElem?_cons_zero, List.getElem?_cons_succ, List.getElem?_nil, simpS, ↓condJ_true, ↓condJ_false, ↓reduceIte, Nat.reduceEqDiff, Nat.reduceLT, Nat.reduceLeDiff, reduceCtorEq, Nat.reduceAdd, Nat.reduceSub, bindG_none, addG_none, hgrpK_none, nestK_none, hgrpK_guarded, Option.map_none, beq_self_eq_true, bne_self_eq_false, Option.map_some, if_true, if_false, List.getD_cons_zero, List.getD_cons_succ, List.length_cons, List.length_nil, List.mem_cons, List.not_mem_nil, List.mem_append, List.nil_append, List.cons_append, List.append_nil, List.take_succ_cons, List.take_zero, List.drop_succ_cons, List.drop_zero, List.set_cons_zero, List.set_cons_succ, List.map_cons, List.map_nil, implies_true, forall_const, ne_eq, hnt', ho, ht, hn, bytesL_length, hbo, hmx, bytesD_L]
  refine hgo_sound 5 ?_
  simp -implicitDefEqProofs (maxSteps := 1000000) only [simpS, ↓condJ_true, ↓condJ_false, ↓reduceIte, Nat.reduceEqDiff, Nat.reduceLT, Nat.reduceLeDiff, reduceCtorEq, Nat.reduceAdd, Nat.reduceSub, bindG_none, addG_none, hgrpK_none, nestK_none, hgrpK_guarded, Option.map_none, beq_self_eq_true, bne_self_eq_false, Option.map_some, if_true, if_false, List.getD_cons_zero, List.getD_cons_succ, List.length_cons, List.length_nil, List.mem_cons, List.not_mem_nil, List.mem_append, List.nil_append, List.cons_append, List.append_nil, List.take_succ_cons, List.take_zero, List.drop_succ_cons, List.drop_zero, List.set_cons_zero, List.set_cons_succ, List.map_cons, List.map_nil, implies_true, forall_const, ne_eq]
  exact fpost_keep (.inr rfl) rfl trivial (fun _ => trivial) fun hw => ⟨rfl, rfl⟩

structure JnS where
  i : Nat
  c : ByteArray

def addrB (id : Nat) : Bool → D
  | true => .ptr id 0
  | false => .nilp
def jnS (σ : St) (t : JnS) : St := (σ.new (.bx (some 64) [addrB σ.next (decide (0 < t.i)), .slice (.tok (σ.next + 1)) 1 (bytesL t.c)])).new (.tok 5 t.c.size)
theorem jnS_next (σ : St) (t : JnS) : (jnS σ t).next = σ.next + 2 := rfl
theorem jnS_wf {σ : St} (hwf : σ.wf) (t : JnS) : (jnS σ t).wf := by
  refine St.wf.new2 hwf ?_ trivial
  refine ⟨?_, ⟨?_, bytesL_lt _ _⟩, trivial⟩
  · cases decide (0 < t.i)
    · trivial
    · show σ.next < σ.next + 2
      omega
  · show σ.next + 1 < σ.next + 2
    omega

end Go.Hl
