/-
  Trees: the data, and the walk down.
-/
import Derived.Test.YtlaljehmcacmjaaHlQ
import Derived.Test.YtlaljehmcacmjaaCodes
import Derived.Test.YtlaljehmcacmjaaHlV
import Derived.IntWalk
set_option linter.unusedSectionVars false
set_option linter.unusedVariables false
set_option linter.unusedSimpArgs false
namespace Go.Hl
open Go Go.Proofs

inductive Nd where
  | mk (kind : Int) (gap text : ByteArray) (at_ : Int) (kids : List Nd)

def Nd.kind : Nd → Int
  | .mk k _ _ _ _ => k
def Nd.gap : Nd → ByteArray
  | .mk _ g _ _ _ => g
def Nd.text : Nd → ByteArray
  | .mk _ _ t _ _ => t
def Nd.at_ : Nd → Int
  | .mk _ _ _ a _ => a
def Nd.kids : Nd → List Nd
  | .mk _ _ _ _ ks => ks

mutual
def encN : Nd → List D
  | .mk k g t a ks => [.int .i64 k, .str g, .str t, .int .i64 a, .slice .no 5 (encNs ks)]
def encNs : List Nd → List (List D)
  | [] => []
  | n :: ns => encN n :: encNs ns
end

mutual
def preN (d : Int) : Nd → List (Int × Nd)
  | .mk k g t a ks => (d, .mk k g t a ks) :: preNs (d + 1) ks
def preNs (d : Int) : List Nd → List (Int × Nd)
  | [] => []
  | n :: ns => preN d n ++ preNs d ns
end

mutual
def cntN : Nd → Nat
  | .mk k g t a ks => 1 + cntNs ks
def cntNs : List Nd → Nat
  | [] => 0
  | n :: ns => cntN n + cntNs ns
end

theorem encNs_length : ∀ ks, (encNs ks).length = ks.length
  | [] => rfl
  | k :: ks => by simp [encNs, encNs_length ks]
theorem encN_length : ∀ n, (encN n).length = 5
  | .mk .. => rfl
theorem encN_take (n : Nd) : (encN n).take 5 = encN n := List.take_of_length_le (by rw [encN_length]; exact Nat.le_refl _)
theorem encN_kind : ∀ n, (encN n).getD 0 .undef = .int .i64 n.kind
  | .mk .. => rfl
theorem encN_gap : ∀ n, (encN n).getD 1 .undef = .str n.gap
  | .mk .. => rfl
theorem encN_text : ∀ n, (encN n).getD 2 .undef = .str n.text
  | .mk .. => rfl
theorem encN_at : ∀ n, (encN n).getD 3 .undef = .int .i64 n.at_
  | .mk .. => rfl
theorem encN_kids : ∀ n, (encN n).getD 4 .undef = .slice .no 5 (encNs n.kids)
  | .mk .. => rfl
theorem encNs_eq : ∀ ks, encNs ks = ks.map encN
  | [] => rfl
  | k :: ks => by simp [encNs, encNs_eq ks]
theorem encNs_mem {ks : List Nd} {x : List D} (hx : x ∈ encNs ks) : x.length = 5 := by
  rw [encNs_eq] at hx
  obtain ⟨y, _, rfl⟩ := List.mem_map.1 hx
  exact encN_length y
mutual
theorem encN_lt (n : Nat) : ∀ m : Nd, ltL n (encN m)
  | .mk k g t a ks => by simp only [encN, ltL, D.lt, Own.lt, true_and, and_true]; exact encNs_lt n ks
theorem encNs_lt (n : Nat) : ∀ ks : List Nd, ltX n (encNs ks)
  | [] => trivial
  | k :: ks => ⟨encN_lt n k, encNs_lt n ks⟩
end

def encX (x : Int × Nd) : List D := [.int .i64 x.1, .agg (encN x.2)]
def stp (x : Int × Nd) : List D := .int .i64 x.1 :: encN x.2
def encSt (st : List (Int × Nd)) : List (List D) := st.reverse.map stp
def walkSt : List (Int × Nd) → List (Int × Nd)
  | [] => []
  | (d, n) :: r => preN d n ++ walkSt r
def cntSt : List (Int × Nd) → Nat
  | [] => 0
  | (d, n) :: r => cntN n + cntSt r

theorem cntN_pos : ∀ n, 1 ≤ cntN n
  | .mk .. => by simp [cntN]
theorem len_le_cnt : ∀ st, st.length ≤ cntSt st
  | [] => Nat.le_refl _
  | (d, n) :: r => by
    have := len_le_cnt r
    have := cntN_pos n
    simp only [List.length_cons, cntSt]
    omega
theorem encSt_length (st) : (encSt st).length = st.length := by simp [encSt]
theorem encSt_getD (d n r) : (encSt ((d, n) :: r)).getD r.length [] = .int .i64 d :: encN n := by
  simp [encSt, stp, List.getD, List.getElem?_append]
theorem encSt_take (x r) : (encSt (x :: r)).take r.length = encSt r := by
  simp [encSt, List.take_append]
theorem ltX_append {n : Nat} : ∀ {xs ys : List (List D)}, ltX n (xs ++ ys) ↔ ltX n xs ∧ ltX n ys
  | [], ys => by simp [ltX]
  | x :: xs, ys => by simp only [List.cons_append, ltX, ltX_append (xs := xs), and_assoc]
theorem encSt_lt (n : Nat) : ∀ st, ltX n (encSt st)
  | [] => trivial
  | (d, m) :: r => by
    have : encSt ((d, m) :: r) = encSt r ++ [stp (d, m)] := by simp [encSt]
    rw [this, ltX_append]
    exact ⟨encSt_lt n r, ⟨⟨trivial, encN_lt n m⟩, trivial⟩⟩

theorem preNs_eq (d : Int) : ∀ ks, preNs d ks = walkSt (ks.map fun k => (d, k))
  | [] => rfl
  | k :: ks => by simp only [preNs, List.map_cons, walkSt, preNs_eq d ks]
theorem walkSt_append : ∀ a b, walkSt (a ++ b) = walkSt a ++ walkSt b
  | [], b => rfl
  | (d, n) :: a, b => by simp only [List.cons_append, walkSt, walkSt_append a b, List.append_assoc]
theorem walkSt_cons (d : Int) (m : Nd) (r : List (Int × Nd)) : walkSt ((d, m) :: r) = (d, m) :: walkSt (m.kids.map (fun k => (d + 1, k)) ++ r) := by
  obtain ⟨k, g, t, a, ks⟩ := m
  simp only [walkSt, preN, walkSt_append, preNs_eq, Nd.kids, List.cons_append]
theorem cntSt_append : ∀ a b, cntSt (a ++ b) = cntSt a + cntSt b
  | [], b => by simp [cntSt]
  | (d, n) :: a, b => by simp only [List.cons_append, cntSt, cntSt_append a b]; omega
theorem cntNs_eq (d : Int) : ∀ ks, cntSt (ks.map fun k => (d, k)) = cntNs ks
  | [] => rfl
  | k :: ks => by simp only [List.map_cons, cntSt, cntNs, cntNs_eq d ks]
theorem cntN_kids : ∀ m : Nd, cntN m = 1 + cntNs m.kids
  | .mk .. => rfl
theorem kids_le : ∀ ks : List Nd, ks.length ≤ cntNs ks
  | [] => Nat.le_refl _
  | k :: ks => by
    have := kids_le ks
    have := cntN_pos k
    simp only [List.length_cons, cntNs]
    omega
theorem cntN_mem : ∀ {ks : List Nd} {k : Nd}, k ∈ ks → cntN k ≤ cntNs ks
  | a :: ks, k, h => by
    rcases List.mem_cons.1 h with rfl | h
    · simp only [cntNs]; omega
    · have := cntN_mem h
      simp only [cntNs]; omega

def backI (ks : List Nd) : Nat → List (Int × Nd)
  | 0 => []
  | j + 1 => match ks[j]? with
    | some k => ((j : Int), k) :: backI ks j
    | none => backI ks j

theorem backI_map (d : Int) (ks : List Nd) : ∀ j, j ≤ ks.length → (backI ks j).map (fun x => (d, x.2)) = ((ks.take j).reverse).map (fun k => (d, k))
  | 0, _ => by simp [backI]
  | j + 1, h => by
    have hl : j < ks.length := h
    rw [List.take_succ_eq_append_getElem hl]
    simp only [backI, List.getElem?_eq_getElem hl, List.map_cons, List.reverse_append, List.reverse_cons, List.reverse_nil, List.nil_append, List.cons_append]
    rw [backI_map d ks j (by omega)]

theorem backI_len (ks : List Nd) : ∀ j, (backI ks j).length ≤ j
  | 0 => Nat.le_refl _
  | j + 1 => by
    have := backI_len ks j
    simp only [backI]
    split
    · simp only [List.length_cons]; omega
    · omega

theorem backward_calls (kss : List (List D)) (σ : St) : HCalls Try.prog 51 [.slice .no 5 kss] σ
    (fun d σ' => d = .func 54 [.eptr [.slice .no 5 kss] 0] ∧ σ' = σ) := by
  refine hcalls_body (fn := Try.f51) rfl c51 (by simp [h51]) (by simp [h51, Try.f51]) ?_
  intro M hP hr hnt hnx hwf hlt
  simp only [h51, argEnv]
  refine hgo_sound 60 ?_
  simp -implicitDefEqProofs (maxSteps := 1000000) only [simpS, ↓condJ_true, ↓condJ_false, ↓reduceIte, Nat.reduceEqDiff, Nat.reduceLT, Nat.reduceLeDiff, reduceCtorEq, Nat.reduceAdd, Nat.reduceSub, Option.map_some, if_true, if_false, List.getD_cons_zero, List.getD_cons_succ, List.length_cons, List.length_nil, List.mem_cons, List.not_mem_nil, List.mem_append, List.nil_append, List.cons_append, List.append_nil, List.take_succ_cons, List.take_zero, List.drop_succ_cons, List.drop_zero, List.set_cons_zero, List.set_cons_succ, List.map_cons, List.map_nil, implies_true, forall_const, ne_eq]
  refine fpost_frz [(σ.next, [.slice .no 5 kss])] false (.inr rfl) (by omega) hwf ((Ext.refl σ).new _ |>.sub hwf) rfl trivial (by simp [St.obj_new]) (by simp [tupD, frzD, frzL, lookF, look]) ?_ ⟨rfl, rfl⟩
  simpa [D.lt, ltL] using hlt

structure BS (C : Type) where
  j : Nat
  c : C

theorem backward_iter (ks : List Nd) (hlen : ks.length < 4611686018427387904) :
    Iter Try.prog 54 (fun y => [y, .eptr [.slice .no 5 (encNs ks)] 0]) encX (backI ks ks.length) := by
  intro tk c y hok hy
  refine hcalls_body (fn := Try.f54) rfl c54 (by simp [h54]) (by simp [h54, Try.f54]) ?_
  intro M hP hr hnt hnx hwf hlt
  simp only [h54, argEnv]
  refine hgo_sound 14 ?_
  simp -implicitDefEqProofs (maxSteps := 1000000) only [simpS, ↓condJ_true, ↓condJ_false, ↓reduceIte, Nat.reduceEqDiff, Nat.reduceLT, Nat.reduceLeDiff, reduceCtorEq, Nat.reduceAdd, Nat.reduceSub, Option.map_some, if_true, if_false, List.getD_cons_zero, List.getD_cons_succ, List.length_cons, List.length_nil, List.mem_cons, List.not_mem_nil, List.mem_append, List.nil_append, List.cons_append, List.append_nil, List.take_succ_cons, List.take_zero, List.drop_succ_cons, List.drop_zero, List.set_cons_zero, List.set_cons_succ, List.map_cons, List.map_nil, implies_true, forall_const, ne_eq]
  refine hx_know_code fun hw hl hn => ?_
  refine hx_loop (S := BS tk.C) (fun s => [(0, y), (1, .eptr [.slice .no 5 (encNs ks)] 0), (3, .int .i64 ((s.j : Int) - 1))]) (fun s => tk.T s.c)
    (fun s => s.j ≤ ks.length ∧ tk.oks s.c (backI ks s.j) ∧ tk.run c (backI ks ks.length) = tk.run s.c (backI ks s.j))
    (fun s => s.j) ⟨ks.length, c⟩ ⟨Nat.le_refl _, hok, rfl⟩ (fun _ _ h => by rw [hr] at h; cases h) ?_ ?_
  · rw [IntWalk.i64_in _ (by rw [encNs_length]; omega), encNs_length]
    exact Drop.all hw hn ⟨⟨rfl, hl 0⟩, ⟨rfl, hl 1⟩, ⟨rfl, trivial⟩, trivial⟩
  rintro ⟨j, c1⟩ ⟨h1, h6, h7⟩
  simp only at h1 h6 h7 ⊢
  refine hx_know_code fun hw1 hl1 hn1 => ?_
  cases j with
  | zero =>
    refine hgo_sound 20 ?_
    have hz : decide (((0 : Nat) : Int) - 1 ≥ 0) = false := rfl
    simp -implicitDefEqProofs (maxSteps := 1000000) only [simpS, ↓condJ_true, ↓condJ_false, ↓reduceIte, Nat.reduceEqDiff, Nat.reduceLT, Nat.reduceLeDiff, reduceCtorEq, Nat.reduceAdd, Nat.reduceSub, Option.map_some, if_true, if_false, List.getD_cons_zero, List.getD_cons_succ, List.length_cons, List.length_nil, List.mem_cons, List.not_mem_nil, List.mem_append, List.nil_append, List.cons_append, List.append_nil, List.take_succ_cons, List.take_zero, List.drop_succ_cons, List.drop_zero, List.set_cons_zero, List.set_cons_succ, List.map_cons, List.map_nil, implies_true, forall_const, ne_eq, hz]
    rw [h7]
    exact fpost_pure (.inl rfl) hn1 hw1 (Sub.refl _) rfl trivial (by simp only [tupD, D.lt, ltL]) rfl
  | succ j =>
    have hji : ((j + 1 : Nat) : Int) - 1 = (j : Int) := by omega
    rw [hji]
    have hjl : j < ks.length := h1
    simp only [backI, List.getElem?_eq_getElem hjl] at h6 h7
    refine hgo_sound 30 ?_
    have hz : (j : Int) ≥ 0 := by omega
    have hjj : (j : Int) < (encNs ks).length := by rw [encNs_length]; omega
    have hget : (encNs ks).getD j [] = encN ks[j] := by rw [encNs_eq]; simp [List.getD, hjl]
    simp -implicitDefEqProofs (maxSteps := 1000000) only [simpS, ↓condJ_true, ↓condJ_false, ↓reduceIte, Nat.reduceEqDiff, Nat.reduceLT, Nat.reduceLeDiff, reduceCtorEq, Nat.reduceAdd, Nat.reduceSub, Option.map_some, if_true, if_false, List.getD_cons_zero, List.getD_cons_succ, List.length_cons, List.length_nil, List.mem_cons, List.not_mem_nil, List.mem_append, List.nil_append, List.cons_append, List.append_nil, List.take_succ_cons, List.take_zero, List.drop_succ_cons, List.drop_zero, List.set_cons_zero, List.set_cons_succ, List.map_cons, List.map_nil, implies_true, forall_const, ne_eq, hz, Int.toNat_natCast, hjj, hget, encN_length, Nat.le_refl, Int.natCast_nonneg]
    refine hx_call rfl (by rw [hP]; exact hy.call c1 ((j : Int), ks[j]) (tk.T c1) (tk.low c1) h6.1) ?_
    rintro d σ2 ⟨rfl, rfl⟩
    rw [tk.mixT]
    refine hx_know_ops fun hw2 hl2 hn2 => ?_
    refine hgo_sound 20 ?_
    simp -implicitDefEqProofs (maxSteps := 1000000) only [simpS, ↓condJ_true, ↓condJ_false, ↓reduceIte, Nat.reduceEqDiff, Nat.reduceLT, Nat.reduceLeDiff, reduceCtorEq, Nat.reduceAdd, Nat.reduceSub, Option.map_some, if_true, if_false, List.getD_cons_zero, List.getD_cons_succ, List.length_cons, List.length_nil, List.mem_cons, List.not_mem_nil, List.mem_append, List.nil_append, List.cons_append, List.append_nil, List.take_succ_cons, List.take_zero, List.drop_succ_cons, List.drop_zero, List.set_cons_zero, List.set_cons_succ, List.map_cons, List.map_nil, implies_true, forall_const, ne_eq]
    refine ⟨fun hb => ?_, fun hb => ?_⟩
    · have hb' : (tk.step c1 (↑j, ks[j])).2 = false := by simpa using hb
      rw [h7, Tk.run_false hb']
      exact fpost_pure (.inr rfl) hn2 hw2 (Sub.refl _) rfl trivial (by simp only [tupD, D.lt, ltL]) rfl
    · have hb' : (tk.step c1 (↑j, ks[j])).2 = true := by simpa using hb
      intro _ _ _
      refine ⟨⟨j, _⟩, ⟨by simp only; omega, h6.2 hb', by rw [h7, Tk.run_true hb']⟩, Nat.lt_succ_self _, ?_⟩
      refine Drop.all hw2 hn2 ⟨⟨rfl, hl2 0⟩, ⟨rfl, hl2 1⟩, ⟨?_, trivial⟩, trivial⟩
      simp only [look, if_true, if_false, reduceIte, Nat.reduceEqDiff]
      rw [IntWalk.i64_in _ (by omega)]

end Go.Hl
