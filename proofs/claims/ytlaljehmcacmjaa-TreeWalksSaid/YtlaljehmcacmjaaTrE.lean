/-
  strings.Builder; tree.Text.
-/
import Derived.Test.YtlaljehmcacmjaaTrD
set_option linter.unusedSectionVars false
set_option linter.unusedVariables false
set_option linter.unusedSimpArgs false
set_option maxRecDepth 100000
namespace Go.Hl
open Go Go.Proofs

theorem noEscape_calls (d : D) (σ : St) : HCalls Try.prog 55 [d] σ (fun d' σ' => d' = d ∧ σ' = σ) := by
  intro g w vs hr hl
  simp only [RL] at hl
  obtain ⟨v, us, rfl, hv, rfl⟩ := hl
  have hf : Try.prog.funcs[55]? = some Try.f55 := rfl
  have hrun : (callFunc 55 #[v]).run Try.prog w = .ok (.value v) w := by kernel_rfl
  show NextOk Try.prog _ ((callFunc 55 #[v]).run Try.prog w)
  rw [hrun]
  exact ⟨d, g, σ, E.refl g w hr.gw, hr, hv, rfl, rfl⟩

/-- Bytes, as a slice has them. -/
def bytesL (s : ByteArray) : List (List D) := s.data.toList.map fun b => [.int .u8 (b.toNat : Int)]

theorem bytesL_length (s : ByteArray) : (bytesL s).length = s.size := by
  simp only [bytesL, List.length_map, Array.length_toList]; rfl
theorem bytesL_append (s t : ByteArray) : bytesL s ++ bytesL t = bytesL (s ++ t) := by
  simp [bytesL]
theorem bytesL_ok (s : ByteArray) : bytesOk (bytesL s) := by
  unfold bytesL
  generalize s.data.toList = l
  induction l with
  | nil => trivial
  | cons b l ih => exact ⟨⟨b, rfl⟩, ih⟩
theorem bytesD_L (s : ByteArray) : bytesD (bytesL s) = s := by
  unfold bytesD bytesL
  have : ∀ l : List UInt8, (l.map fun b => [D.int .u8 (b.toNat : Int)]).map byteOf = l := fun l => by
    induction l with
    | nil => rfl
    | cons b l ih => simp [byteOf, ih]
  rw [this]
theorem bytesL_lt (n : Nat) (s : ByteArray) : ltX n (bytesL s) := by
  unfold bytesL
  generalize s.data.toList = l
  induction l with
  | nil => trivial
  | cons b l ih => exact ⟨⟨trivial, trivial⟩, ih⟩

theorem copyCheck_calls (id : Nat) (a b : D) (ha : a = .nilp ∨ a = .ptr id 0) (σ : St) (ho : σ.obj id = some (.bx (some 74) [a, b])) :
    HCalls Try.prog 52 [.ptr id 0] σ (fun _ σ' => σ' = σ.put id (.bx (some 74) [.ptr id 0, b])) := by
  refine hcalls_body (fn := Try.f52) rfl c52 (by simp [h52]) (by simp [h52, Try.f52]) ?_
  intro M hP hr hnt hnx hwf hlt
  have hid := (hwf.obj _ _ ho).1
  simp only [h52, argEnv]
  rcases ha with rfl | rfl
  · refine hgo_sound 40 ?_
    simp -implicitDefEqProofs (maxSteps := 1000000) only [simpS, ↓condJ_true, ↓condJ_false, ↓reduceIte, Nat.reduceEqDiff, Nat.reduceLT, Nat.reduceLeDiff, reduceCtorEq, Nat.reduceAdd, Nat.reduceSub, Option.map_some, if_true, if_false, List.getD_cons_zero, List.getD_cons_succ, List.length_cons, List.length_nil, List.mem_cons, List.not_mem_nil, List.mem_append, List.nil_append, List.cons_append, List.append_nil, List.take_succ_cons, List.take_zero, List.drop_succ_cons, List.drop_zero, List.set_cons_zero, List.set_cons_succ, List.map_cons, List.map_nil, implies_true, forall_const, ne_eq, ho]
    refine hx_call (f := .fn 55) rfl (by rw [hP]; exact hcallD_func (noEscape_calls _ _)) ?_
    rintro _ _ ⟨rfl, rfl⟩
    refine hgo_sound 40 ?_
    simp -implicitDefEqProofs (maxSteps := 1000000) only [simpS, ↓condJ_true, ↓condJ_false, ↓reduceIte, Nat.reduceEqDiff, Nat.reduceLT, Nat.reduceLeDiff, reduceCtorEq, Nat.reduceAdd, Nat.reduceSub, Option.map_some, if_true, if_false, List.getD_cons_zero, List.getD_cons_succ, List.length_cons, List.length_nil, List.mem_cons, List.not_mem_nil, List.mem_append, List.nil_append, List.cons_append, List.append_nil, List.take_succ_cons, List.take_zero, List.drop_succ_cons, List.drop_zero, List.set_cons_zero, List.set_cons_succ, List.map_cons, List.map_nil, implies_true, forall_const, ne_eq, ho]
    exact fpost_keep (.inl rfl) rfl trivial (fun _ => by simp only [tupD, D.lt, ltL]) fun hw => rfl
  · refine hgo_sound 40 ?_
    simp -implicitDefEqProofs (maxSteps := 1000000) only [simpS, ↓condJ_true, ↓condJ_false, ↓reduceIte, Nat.reduceEqDiff, Nat.reduceLT, Nat.reduceLeDiff, reduceCtorEq, Nat.reduceAdd, Nat.reduceSub, Option.map_some, if_true, if_false, List.getD_cons_zero, List.getD_cons_succ, List.length_cons, List.length_nil, List.mem_cons, List.not_mem_nil, List.mem_append, List.nil_append, List.cons_append, List.append_nil, List.take_succ_cons, List.take_zero, List.drop_succ_cons, List.drop_zero, List.set_cons_zero, List.set_cons_succ, List.map_cons, List.map_nil, implies_true, forall_const, ne_eq, ho]
    exact fpost_keep (.inl rfl) rfl trivial (fun _ => by simp only [tupD, D.lt, ltL]) fun hw => (put_self ho).symm

/-- The store where Builder id holds s. -/
theorem writeString_calls (id t n : Nat) (a : D) (s x : ByteArray) (ha : a = .nilp ∨ a = .ptr id 0) (σ : St) (ho : σ.obj id = some (.bx (some 74) [a, .slice (.tok t) 1 (bytesL s)])) (hne : id ≠ t)
    (ht : σ.obj t = some (.tok 5 n)) (hn : n = s.size) (hmax : s.size + x.size ≤ 140737488355328) :
    HCalls Try.prog 37 [.ptr id 0, .str x] σ (fun _ σ' => σ' = (σ.put t (.tok 5 (n + x.size))).put id (.bx (some 74) [.ptr id 0, .slice (.tok t) 1 (bytesL (s ++ x))])) := by
  refine hcalls_body (fn := Try.f37) rfl c37 (by simp [h37]) (by simp [h37, Try.f37]) ?_
  intro M hP hr hnt hnx hwf hlt
  simp only [h37, argEnv]
  refine hgo_sound 40 ?_
  simp -implicitDefEqProofs (maxSteps := 1000000) only [simpS, ↓condJ_true, ↓condJ_false, ↓reduceIte, Nat.reduceEqDiff, Nat.reduceLT, Nat.reduceLeDiff, reduceCtorEq, Nat.reduceAdd, Nat.reduceSub, Option.map_some, if_true, if_false, List.getD_cons_zero, List.getD_cons_succ, List.length_cons, List.length_nil, List.mem_cons, List.not_mem_nil, List.mem_append, List.nil_append, List.cons_append, List.append_nil, List.take_succ_cons, List.take_zero, List.drop_succ_cons, List.drop_zero, List.set_cons_zero, List.set_cons_succ, List.map_cons, List.map_nil, implies_true, forall_const, ne_eq]
  refine hx_call (f := .fn 52) rfl (by rw [hP]; exact hcallD_func (copyCheck_calls id a _ ha σ ho)) ?_
  rintro _ _ rfl
  have hxl : (List.map (fun b => [D.int IntKind.u8 (b.toNat : Int)]) x.data.toList).length = x.size := bytesL_length x
  have hb1 : (s.size + x.size) * 1 ≤ 140737488355328 := by omega
  have hb2 : s.size + x.size ≤ 9223372036854775807 := by omega
  refine hgo_sound 60 ?_
  simp -implicitDefEqProofs (maxSteps := 1000000) only [simpS, ↓condJ_true, ↓condJ_false, ↓reduceIte, Nat.reduceEqDiff, Nat.reduceLT, Nat.reduceLeDiff, reduceCtorEq, Nat.reduceAdd, Nat.reduceSub, Option.map_some, if_true, if_false, List.getD_cons_zero, List.getD_cons_succ, List.length_cons, List.length_nil, List.mem_cons, List.not_mem_nil, List.mem_append, List.nil_append, List.cons_append, List.append_nil, List.take_succ_cons, List.take_zero, List.drop_succ_cons, List.drop_zero, List.set_cons_zero, List.set_cons_succ, List.map_cons, List.map_nil, implies_true, forall_const, ne_eq, hne, Ne.symm hne, ht, bytesL_length, hxl, hb1, hb2, hn]
  refine fpost_keep (.inr rfl) rfl trivial (fun _ => ⟨trivial, trivial, trivial⟩) fun hw => ?_
  refine St.ext' (fun j => ?_) rfl rfl
  simp only [St.obj_put, bytesL_append, ← bytesL_append]
  by_cases q : j = id
  · simp [q]; rfl
  · simp [q]

theorem bstring_calls (id t n : Nat) (a : D) (s : ByteArray) (σ : St) (ho : σ.obj id = some (.bx (some 74) [a, .slice (.tok t) 1 (bytesL s)]))
    (ht : σ.obj t = some (.tok 5 n)) (hn : n = s.size) (hmax : s.size ≤ 140737488355328) :
    HCalls Try.prog 38 [.ptr id 0] σ (fun d σ' => d = .str s ∧ σ' = σ) := by
  refine hcalls_body (fn := Try.f38) rfl c38 (by simp [h38]) (by simp [h38, Try.f38]) ?_
  intro M hP hr hnt hnx hwf hlt
  simp only [h38, argEnv]
  have hnt' : M.nt = 14 := hnt
  refine hgo_sound 40 ?_
  simp -implicitDefEqProofs (maxSteps := 1000000) only [simpS, ↓condJ_true, ↓condJ_false, ↓reduceIte, Nat.reduceEqDiff, Nat.reduceLT, Nat.reduceLeDiff, reduceCtorEq, Nat.reduceAdd, Nat.reduceSub, Option.map_some, if_true, if_false, List.getD_cons_zero, List.getD_cons_succ, List.length_cons, List.length_nil, List.mem_cons, List.not_mem_nil, List.mem_append, List.nil_append, List.cons_append, List.append_nil, List.take_succ_cons, List.take_zero, List.drop_succ_cons, List.drop_zero, List.set_cons_zero, List.set_cons_succ, List.map_cons, List.map_nil, implies_true, forall_const, ne_eq]
  refine hx_drawgo 5 ?_
  have hbo := bytesL_ok s
  have hmx : s.size ≤ 9223372036854775807 := by omega
  simp -implicitDefEqProofs only [drawS, List.map_cons, List.map_nil, List.getElem?_cons_zero, List.getElem?_cons_succ, List.getElem?_nil, simpS, ↓condJ_true, ↓condJ_false, ↓reduceIte, Nat.reduceEqDiff, Nat.reduceLT, Nat.reduceLeDiff, reduceCtorEq, Nat.reduceAdd, Nat.reduceSub, Option.map_some, if_true, if_false, List.getD_cons_zero, List.getD_cons_succ, List.length_cons, List.length_nil, List.mem_cons, List.not_mem_nil, List.mem_append, List.nil_append, List.cons_append, List.append_nil, List.take_succ_cons, List.take_zero, List.drop_succ_cons, List.drop_zero, List.set_cons_zero, List.set_cons_succ, List.map_cons, List.map_nil, implies_true, forall_const, ne_eq, hnt', ho, ht, hn, bytesL_length, hbo, hmx, bytesD_L]
  refine hgo_sound 5 ?_
  simp -implicitDefEqProofs (maxSteps := 1000000) only [simpS, ↓condJ_true, ↓condJ_false, ↓reduceIte, Nat.reduceEqDiff, Nat.reduceLT, Nat.reduceLeDiff, reduceCtorEq, Nat.reduceAdd, Nat.reduceSub, Option.map_some, if_true, if_false, List.getD_cons_zero, List.getD_cons_succ, List.length_cons, List.length_nil, List.mem_cons, List.not_mem_nil, List.mem_append, List.nil_append, List.cons_append, List.append_nil, List.take_succ_cons, List.take_zero, List.drop_succ_cons, List.drop_zero, List.set_cons_zero, List.set_cons_succ, List.map_cons, List.map_nil, implies_true, forall_const, ne_eq]
  exact fpost_keep (.inr rfl) rfl trivial (fun _ => trivial) fun hw => ⟨rfl, rfl⟩

/-! ### tree.Text -/

def textL : List Nd → ByteArray
  | [] => ⟨#[]⟩
  | n :: ns => n.gap ++ n.text ++ textL ns

def textLen : List Nd → Nat
  | [] => 0
  | n :: ns => n.gap.size + n.text.size + textLen ns

/-- The Builder's text, whether it was written. -/
def textStep (c : ByteArray × Bool) (x : Nd) : (ByteArray × Bool) × Option HC := ((c.1 ++ x.gap ++ x.text, true), none)
def addrB (id : Nat) : Bool → D
  | true => .ptr id 0
  | false => .nilp

def textS (σ : St) (n : Nd) (c : ByteArray × Bool) : St := ((σ.new (.box (encN n))).new (.bx (some 74) [addrB (σ.next + 1) c.2, .slice (.tok (σ.next + 2)) 1 (bytesL c.1)])).new (.tok 5 c.1.size)

theorem textStep_run : ∀ (xs : List Nd) (c : ByteArray × Bool), rngRun textStep c xs = ((c.1 ++ textL xs, c.2 || !xs.isEmpty), none)
  | [], c => by
    simp only [rngRun, textL, List.isEmpty_nil, Bool.not_true, Bool.or_false]
    rw [show c.1 ++ (⟨#[]⟩ : ByteArray) = c.1 from ByteArray.append_empty]
  | x :: xs, c => by
    simp only [rngRun, textStep]
    rw [textStep_run xs]
    simp [textL, ByteArray.append_assoc]

theorem textStep_oks : ∀ (xs : List Nd) (c : ByteArray × Bool), c.1.size + textLen xs ≤ 1099511627776 → rngOks (fun (c : ByteArray × Bool) (x : Nd) => c.1.size + x.gap.size + x.text.size ≤ 1099511627776) textStep c xs
  | [], c, _ => trivial
  | x :: xs, c, h => by
    simp only [textLen] at h
    refine ⟨by show _ ≤ _; omega, fun _ => textStep_oks xs _ ?_⟩
    simp only [textStep, ByteArray.size_append]
    omega

theorem textS_wf {σ : St} (hwf : σ.wf) (n : Nd) (c : ByteArray × Bool) : (textS σ n c).wf := by
  refine (hwf.box (encN_lt _ n)).new2 (show ltL _ [addrB (σ.next + 1) c.2, .slice (.tok (σ.next + 2)) 1 (bytesL c.1)] from ⟨?_, ⟨?_, bytesL_lt _ _⟩, trivial⟩) trivial
  · cases c.2
    · trivial
    · simp only [addrB, D.lt, St.next_new]; omega
  · simp only [Own.lt, St.next_new]; omega

theorem text_calls (n : Nd) (hn : cntN n ≤ 1099511627776) (hl : textLen (leavesL (walkN n)) ≤ 1099511627776) (σ : St) : HCalls Try.prog 12 [.agg (encN n)] σ (fun d σ' => d = .str (textL (leavesL (walkN n))) ∧ σ' = σ) := by
  refine hcalls_body (fn := Try.f12) rfl c12 (by simp [h12]) (by simp [h12, Try.f12]) ?_
  intro M hP hr hnt hnx hwf hlt
  simp only [h12, argEnv]
  refine hgo_sound 40 ?_
  simp -implicitDefEqProofs (maxSteps := 1000000) only [simpS, ↓condJ_true, ↓condJ_false, ↓reduceIte, Nat.reduceEqDiff, Nat.reduceLT, Nat.reduceLeDiff, reduceCtorEq, Nat.reduceAdd, Nat.reduceSub, Option.map_some, if_true, if_false, List.getD_cons_zero, List.getD_cons_succ, List.length_cons, List.length_nil, List.mem_cons, List.not_mem_nil, List.mem_append, List.nil_append, List.cons_append, List.append_nil, List.take_succ_cons, List.take_zero, List.drop_succ_cons, List.drop_zero, List.set_cons_zero, List.set_cons_succ, List.map_cons, List.map_nil, implies_true, forall_const, ne_eq, encN_length]
  refine hx_full_box (id := σ.next + 1) (j := 1) (cs := [.nilp, .slice .nil 0 []]) (ot := some 74) 5 1 (by simp -implicitDefEqProofs (maxSteps := 1000000) only [simpS, ↓condJ_true, ↓condJ_false, ↓reduceIte, Nat.reduceEqDiff, Nat.reduceLT, Nat.reduceLeDiff, reduceCtorEq, Nat.reduceAdd, Nat.reduceSub, Option.map_some, if_true, if_false, List.getD_cons_zero, List.getD_cons_succ, List.length_cons, List.length_nil, List.mem_cons, List.not_mem_nil, List.mem_append, List.nil_append, List.cons_append, List.append_nil, List.take_succ_cons, List.take_zero, List.drop_succ_cons, List.drop_zero, List.set_cons_zero, List.set_cons_succ, List.map_cons, List.map_nil, implies_true, forall_const, ne_eq]) rfl ?_ (fun _ e => by cases e) (fun _ e => by cases e)
  refine hx_call (f := .fn 22) rfl (by rw [hP]; exact hcallD_func (leaves_calls n _)) ?_
  rintro _ σ2 ⟨rfl, rfl⟩
  refine hgo_sound 6 ?_
  simp -implicitDefEqProofs (maxSteps := 1000000) only [simpS, ↓condJ_true, ↓condJ_false, ↓reduceIte, Nat.reduceEqDiff, Nat.reduceLT, Nat.reduceLeDiff, reduceCtorEq, Nat.reduceAdd, Nat.reduceSub, Option.map_some, if_true, if_false, List.getD_cons_zero, List.getD_cons_succ, List.length_cons, List.length_nil, List.mem_cons, List.not_mem_nil, List.mem_append, List.nil_append, List.cons_append, List.append_nil, List.take_succ_cons, List.take_zero, List.drop_succ_cons, List.drop_zero, List.set_cons_zero, List.set_cons_succ, List.map_cons, List.map_nil, implies_true, forall_const, ne_eq]
  refine hx_know_code fun hw hl1 hn1 => ?_
  have hsub : ∀ c, Ext σ (textS σ n c) := fun c => (((Ext.refl σ).new _).new _).new _
  refine hx_range_fold (fn := 41) (caps := [.eptr (encN n) 0]) (xs := leavesL (walkN n)) (enc := encL) (textS σ n)
    (fun (c : ByteArray × Bool) (x : Nd) => c.1.size + x.gap.size + x.text.size ≤ 1099511627776) textStep (⟨#[]⟩, false) rfl (by rw [hP]; rfl) (fun _ _ h => by rw [hr] at h; cases h) (by rw [hP]; exact leaves_iter n hn) rfl
    (fun c => rfl) (fun c c' => rfl) (textS_wf hwf n) hl1 (textStep_oks _ _ (by show 0 + _ ≤ _; omega)) (fun _ => rfl) (by rw [hnt]; decide) ?_ ?_
  · rintro ⟨s, b⟩ x τ hk hle hτ hgl M' hP' hnt' hr' hnx' hwf' hlt'
    simp only [St.next_new, Nat.add_assoc, Nat.reduceAdd] at hle hl1 hk ⊢
    simp only [encL, putsE, textS]
    have n1 : ¬ τ.next < σ.next + 4 := by omega
    refine hgo_sound 20 ?_
    simp -implicitDefEqProofs (maxSteps := 1000000) only [simpS, ↓condJ_true, ↓condJ_false, ↓reduceIte, Nat.reduceEqDiff, Nat.reduceLT, Nat.reduceLeDiff, reduceCtorEq, Nat.reduceAdd, Nat.reduceSub, Option.map_some, if_true, if_false, List.getD_cons_zero, List.getD_cons_succ, List.length_cons, List.length_nil, List.mem_cons, List.not_mem_nil, List.mem_append, List.nil_append, List.cons_append, List.append_nil, List.take_succ_cons, List.take_zero, List.drop_succ_cons, List.drop_zero, List.set_cons_zero, List.set_cons_succ, List.map_cons, List.map_nil, implies_true, forall_const, ne_eq, encN_length, hle, n1]
    refine hgo_sound 20 ?_
    simp -implicitDefEqProofs (maxSteps := 1000000) only [simpS, ↓condJ_true, ↓condJ_false, ↓reduceIte, Nat.reduceEqDiff, Nat.reduceLT, Nat.reduceLeDiff, reduceCtorEq, Nat.reduceAdd, Nat.reduceSub, Option.map_some, if_true, if_false, List.getD_cons_zero, List.getD_cons_succ, List.length_cons, List.length_nil, List.mem_cons, List.not_mem_nil, List.mem_append, List.nil_append, List.cons_append, List.append_nil, List.take_succ_cons, List.take_zero, List.drop_succ_cons, List.drop_zero, List.set_cons_zero, List.set_cons_succ, List.map_cons, List.map_nil, implies_true, forall_const, ne_eq, encN_length, encN_gap, hle, n1]
    refine hx_call (f := .fn 37) rfl (by
      rw [hP', hP]
      exact hcallD_func (writeString_calls (σ.next + 1) (σ.next + 2) s.size (addrB (σ.next + 1) b) s x.gap (by cases b; exact .inl rfl; exact .inr rfl) _ (by simp -implicitDefEqProofs (maxSteps := 1000000) only [simpS, ↓condJ_true, ↓condJ_false, ↓reduceIte, Nat.reduceEqDiff, Nat.reduceLT, Nat.reduceLeDiff, reduceCtorEq, Nat.reduceAdd, Nat.reduceSub, Option.map_some, if_true, if_false, List.getD_cons_zero, List.getD_cons_succ, List.length_cons, List.length_nil, List.mem_cons, List.not_mem_nil, List.mem_append, List.nil_append, List.cons_append, List.append_nil, List.take_succ_cons, List.take_zero, List.drop_succ_cons, List.drop_zero, List.set_cons_zero, List.set_cons_succ, List.map_cons, List.map_nil, implies_true, forall_const, ne_eq]) (by omega) (by simp -implicitDefEqProofs (maxSteps := 1000000) only [simpS, ↓condJ_true, ↓condJ_false, ↓reduceIte, Nat.reduceEqDiff, Nat.reduceLT, Nat.reduceLeDiff, reduceCtorEq, Nat.reduceAdd, Nat.reduceSub, Option.map_some, if_true, if_false, List.getD_cons_zero, List.getD_cons_succ, List.length_cons, List.length_nil, List.mem_cons, List.not_mem_nil, List.mem_append, List.nil_append, List.cons_append, List.append_nil, List.take_succ_cons, List.take_zero, List.drop_succ_cons, List.drop_zero, List.set_cons_zero, List.set_cons_succ, List.map_cons, List.map_nil, implies_true, forall_const, ne_eq]) rfl (by omega))) ?_
    rintro _ σ2 rfl
    refine hgo_sound 20 ?_
    simp -implicitDefEqProofs (maxSteps := 1000000) only [simpS, ↓condJ_true, ↓condJ_false, ↓reduceIte, Nat.reduceEqDiff, Nat.reduceLT, Nat.reduceLeDiff, reduceCtorEq, Nat.reduceAdd, Nat.reduceSub, Option.map_some, if_true, if_false, List.getD_cons_zero, List.getD_cons_succ, List.length_cons, List.length_nil, List.mem_cons, List.not_mem_nil, List.mem_append, List.nil_append, List.cons_append, List.append_nil, List.take_succ_cons, List.take_zero, List.drop_succ_cons, List.drop_zero, List.set_cons_zero, List.set_cons_succ, List.map_cons, List.map_nil, implies_true, forall_const, ne_eq, encN_length, encN_text, hle, n1]
    refine hx_call (f := .fn 37) rfl (by
      rw [hP', hP]
      exact hcallD_func (writeString_calls (σ.next + 1) (σ.next + 2) (s.size + x.gap.size) (.ptr (σ.next + 1) 0) (s ++ x.gap) x.text (.inr rfl) _ (by simp -implicitDefEqProofs (maxSteps := 1000000) only [simpS, ↓condJ_true, ↓condJ_false, ↓reduceIte, Nat.reduceEqDiff, Nat.reduceLT, Nat.reduceLeDiff, reduceCtorEq, Nat.reduceAdd, Nat.reduceSub, Option.map_some, if_true, if_false, List.getD_cons_zero, List.getD_cons_succ, List.length_cons, List.length_nil, List.mem_cons, List.not_mem_nil, List.mem_append, List.nil_append, List.cons_append, List.append_nil, List.take_succ_cons, List.take_zero, List.drop_succ_cons, List.drop_zero, List.set_cons_zero, List.set_cons_succ, List.map_cons, List.map_nil, implies_true, forall_const, ne_eq]) (by omega) (by simp -implicitDefEqProofs (maxSteps := 1000000) only [simpS, ↓condJ_true, ↓condJ_false, ↓reduceIte, Nat.reduceEqDiff, Nat.reduceLT, Nat.reduceLeDiff, reduceCtorEq, Nat.reduceAdd, Nat.reduceSub, Option.map_some, if_true, if_false, List.getD_cons_zero, List.getD_cons_succ, List.length_cons, List.length_nil, List.mem_cons, List.not_mem_nil, List.mem_append, List.nil_append, List.cons_append, List.append_nil, List.take_succ_cons, List.take_zero, List.drop_succ_cons, List.drop_zero, List.set_cons_zero, List.set_cons_succ, List.map_cons, List.map_nil, implies_true, forall_const, ne_eq]) ByteArray.size_append.symm (by rw [ByteArray.size_append]; omega))) ?_
    rintro _ σ3 rfl
    refine hgo_sound 20 ?_
    simp -implicitDefEqProofs (maxSteps := 1000000) only [simpS, ↓condJ_true, ↓condJ_false, ↓reduceIte, Nat.reduceEqDiff, Nat.reduceLT, Nat.reduceLeDiff, reduceCtorEq, Nat.reduceAdd, Nat.reduceSub, Option.map_some, if_true, if_false, List.getD_cons_zero, List.getD_cons_succ, List.length_cons, List.length_nil, List.mem_cons, List.not_mem_nil, List.mem_append, List.nil_append, List.cons_append, List.append_nil, List.take_succ_cons, List.take_zero, List.drop_succ_cons, List.drop_zero, List.set_cons_zero, List.set_cons_succ, List.map_cons, List.map_nil, implies_true, forall_const, ne_eq, encN_length, encN_text, hle, n1]
    refine round_next ?_ rfl (textS_wf hwf n _) hl1 hτ hle ((Ext.refl τ).new _)
    simp only [textS, textStep, addrB, ByteArray.size_append, Nat.add_assoc]
  · rw [textStep_run]
    refine hx_inBlock ?_
    refine hgo_sound 20 ?_
    simp -implicitDefEqProofs (maxSteps := 1000000) only [simpS, ↓condJ_true, ↓condJ_false, ↓reduceIte, Nat.reduceEqDiff, Nat.reduceLT, Nat.reduceLeDiff, reduceCtorEq, Nat.reduceAdd, Nat.reduceSub, Option.map_some, if_true, if_false, List.getD_cons_zero, List.getD_cons_succ, List.length_cons, List.length_nil, List.mem_cons, List.not_mem_nil, List.mem_append, List.nil_append, List.cons_append, List.append_nil, List.take_succ_cons, List.take_zero, List.drop_succ_cons, List.drop_zero, List.set_cons_zero, List.set_cons_succ, List.map_cons, List.map_nil, implies_true, forall_const, ne_eq, textS]
    have he : (⟨#[]⟩ : ByteArray) ++ textL (leavesL (walkN n)) = textL (leavesL (walkN n)) := ByteArray.empty_append
    have hsz : ∀ l, (textL l).size = textLen l := fun l => by
      induction l with
      | nil => rfl
      | cons x xs ih => simp only [textL, textLen, ByteArray.size_append, ih]
    rw [he]
    refine hx_call (f := .fn 38) rfl (by
      rw [hP]
      exact hcallD_func (bstring_calls (σ.next + 1) (σ.next + 2) (textL (leavesL (walkN n))).size _ (textL (leavesL (walkN n))) _ (by simp -implicitDefEqProofs (maxSteps := 1000000) only [simpS, ↓condJ_true, ↓condJ_false, ↓reduceIte, Nat.reduceEqDiff, Nat.reduceLT, Nat.reduceLeDiff, reduceCtorEq, Nat.reduceAdd, Nat.reduceSub, Option.map_some, if_true, if_false, List.getD_cons_zero, List.getD_cons_succ, List.length_cons, List.length_nil, List.mem_cons, List.not_mem_nil, List.mem_append, List.nil_append, List.cons_append, List.append_nil, List.take_succ_cons, List.take_zero, List.drop_succ_cons, List.drop_zero, List.set_cons_zero, List.set_cons_succ, List.map_cons, List.map_nil, implies_true, forall_const, ne_eq]; rfl) (by simp -implicitDefEqProofs (maxSteps := 1000000) only [simpS, ↓condJ_true, ↓condJ_false, ↓reduceIte, Nat.reduceEqDiff, Nat.reduceLT, Nat.reduceLeDiff, reduceCtorEq, Nat.reduceAdd, Nat.reduceSub, Option.map_some, if_true, if_false, List.getD_cons_zero, List.getD_cons_succ, List.length_cons, List.length_nil, List.mem_cons, List.not_mem_nil, List.mem_append, List.nil_append, List.cons_append, List.append_nil, List.take_succ_cons, List.take_zero, List.drop_succ_cons, List.drop_zero, List.set_cons_zero, List.set_cons_succ, List.map_cons, List.map_nil, implies_true, forall_const, ne_eq]) rfl (by rw [hsz]; omega))) ?_
    rintro _ σ3 ⟨rfl, rfl⟩
    refine hgo_sound 20 ?_
    simp -implicitDefEqProofs (maxSteps := 1000000) only [simpS, ↓condJ_true, ↓condJ_false, ↓reduceIte, Nat.reduceEqDiff, Nat.reduceLT, Nat.reduceLeDiff, reduceCtorEq, Nat.reduceAdd, Nat.reduceSub, Option.map_some, if_true, if_false, List.getD_cons_zero, List.getD_cons_succ, List.length_cons, List.length_nil, List.mem_cons, List.not_mem_nil, List.mem_append, List.nil_append, List.cons_append, List.append_nil, List.take_succ_cons, List.take_zero, List.drop_succ_cons, List.drop_zero, List.set_cons_zero, List.set_cons_succ, List.map_cons, List.map_nil, implies_true, forall_const, ne_eq]
    exact fpost_pure (.inr rfl) (by rw [hnx]; exact Nat.le_refl _) hwf ((hsub (textL (leavesL (walkN n)), _)).bump.sub hwf) rfl trivial trivial ⟨rfl, rfl⟩

end Go.Hl
