/-
  Plain laws: numbers.
-/
import Derived.Test.YtijcddlahidhhaaGreatDoorHlS
import Derived.Lib.ItoaNum
import Derived.Lib.AtoiAll
import Derived.Lib.ItoaMem
import Derived.Test.YtijcddlahidhhaaGreatDoorHlM
import Derived.IntWalk
import Derived.Lib.Bytealg
set_option linter.unusedVariables false
set_option linter.unusedSimpArgs false
namespace Go.Hl
open Go

def rNumF (acc : Nat) : List UInt8 → Option Nat
  | [] => some acc
  | b :: bs => if isFig b then rNumF (10 * acc + (b.toNat - 48)) bs else none

def rNumD (s : ByteArray) : Option Nat :=
  let l := s.data.toList
  if l.length = 0 ∨ l.length > 10 ∨ (l.length > 1 ∧ l.headD 0 = 48) then none
  else match rNumF 0 l with
    | none => none
    | some n => if n > 2147483647 then none else some n

theorem rNumF_snoc (b : UInt8) : ∀ (l : List UInt8) (acc : Nat), rNumF acc (l ++ [b]) = match rNumF acc l with
    | none => none
    | some m => if isFig b then some (10 * m + (b.toNat - 48)) else none
  | [], acc => by simp [rNumF]
  | c :: l, acc => by
    simp only [List.cons_append, rNumF]
    split
    · exact rNumF_snoc b l _
    · rfl

theorem fig_of (d : Nat) (h : d < 10) : isFig (UInt8.ofNat (48 + d)) = true ∧ (UInt8.ofNat (48 + d)).toNat = 48 + d := by
  have : (UInt8.ofNat (48 + d)).toNat = 48 + d := by simp; omega
  refine ⟨?_, this⟩
  simp only [isFig, this]
  simp
  omega

theorem dec_num : ∀ u : Nat, rNumF 0 (Lib.decDigits u) = some u := by
  intro u
  induction u using Nat.strongRecOn with
  | _ u ih =>
    rw [Lib.decDigits]
    split
    · rename_i h
      obtain ⟨h1, h2⟩ := fig_of u h
      simp only [rNumF, h1, if_true, h2]
      simp
    · rename_i h
      obtain ⟨h1, h2⟩ := fig_of (u % 10) (by omega)
      rw [rNumF_snoc, ih (u / 10) (by omega)]
      simp only [h1, if_true, h2]
      congr 1
      omega

theorem dec_head : ∀ u : Nat, 1 ≤ u → ∃ b r, Lib.decDigits u = b :: r ∧ b ≠ 48 := by
  intro u
  induction u using Nat.strongRecOn with
  | _ u ih =>
    intro h1
    rw [Lib.decDigits]
    split
    · rename_i h
      refine ⟨_, _, rfl, fun e => ?_⟩
      have := congrArg UInt8.toNat e
      rw [(fig_of u h).2] at this
      simp at this
      omega
    · rename_i h
      obtain ⟨b, r, e, hb⟩ := ih (u / 10) (by omega) (by omega)
      rw [e]
      exact ⟨b, r ++ _, rfl, hb⟩

theorem dec_zero : Lib.decDigits 0 = [48] := by rw [Lib.decDigits]; rfl

theorem fig_back {b : UInt8} (h : isFig b = true) : UInt8.ofNat (48 + (b.toNat - 48)) = b ∧ b.toNat - 48 < 10 ∧ 48 ≤ b.toNat := by
  simp only [isFig, decide_eq_true_eq] at h
  refine ⟨?_, by omega, h.1⟩
  rw [show 48 + (b.toNat - 48) = b.toNat by omega]
  simp

theorem dec_unique : ∀ (k : Nat) (l : List UInt8), l.length = k → l ≠ [] → (l.length > 1 → l.headD 0 ≠ 48) → ∀ n, rNumF 0 l = some n → l = Lib.decDigits n := by
  intro k
  induction k with
  | zero => intro l hl hne; exact absurd (List.eq_nil_of_length_eq_zero hl) hne
  | succ k ih =>
    intro l hl hne hh n hn
    obtain ⟨l', b, rfl⟩ : ∃ l' b, l = l' ++ [b] := ⟨l.dropLast, l.getLast hne, (List.dropLast_concat_getLast hne).symm⟩
    rw [rNumF_snoc] at hn
    cases hm : rNumF 0 l' with
    | none => rw [hm] at hn; cases hn
    | some m =>
      rw [hm] at hn
      simp only at hn
      split at hn; rotate_left; · cases hn
      rename_i hb
      injection hn with hn
      obtain ⟨q1, q2, q3⟩ := fig_back hb
      by_cases hl0 : l' = []
      · subst hl0
        simp only [rNumF, Option.some.injEq] at hm
        subst hm
        subst hn
        rw [Lib.decDigits, dif_pos (by omega), List.nil_append]
        rw [show 48 + (10 * 0 + (b.toNat - 48)) = 48 + (b.toNat - 48) by omega, q1]
      · have hlen : l'.length = k := by simpa using hl
        have hpos : 0 < l'.length := List.length_pos_iff.2 hl0
        have hhead : (l' ++ [b]).headD 0 = l'.headD 0 := by
          cases l' with
          | nil => exact absurd rfl hl0
          | cons c r => rfl
        have h48 : l'.headD 0 ≠ 48 := by
          rw [← hhead]
          exact hh (by simp; omega)
        have e := ih l' hlen hl0 (fun _ => h48) m hm
        have hm1 : 1 ≤ m := by
          rcases Nat.eq_zero_or_pos m with h0 | h0
          · subst h0
            rw [dec_zero] at e
            rw [e] at h48
            exact absurd rfl h48
          · exact h0
        rw [Lib.decDigits, dif_neg (by omega), show n / 10 = m by omega, show n % 10 = b.toNat - 48 by omega, q1, ← e]

theorem num_mono : ∀ (l : List UInt8) (acc n : Nat), rNumF acc l = some n → acc ≤ n
  | [], acc, n, h => by simp only [rNumF, Option.some.injEq] at h; omega
  | b :: l, acc, n, h => by
    simp only [rNumF] at h
    split at h; rotate_left; · cases h
    have := num_mono l _ n h
    omega

theorem num_parse : ∀ (l : List UInt8) (acc n : Nat), rNumF acc l = some n → n ≤ 2147483647 → Lib.parseUint10 acc l = .ok n
  | [], acc, n, h, _ => by simp only [rNumF, Option.some.injEq] at h; rw [h]; rfl
  | b :: l, acc, n, h, hn => by
    simp only [rNumF] at h
    split at h; rotate_left; · cases h
    rename_i hb
    have h1 := num_mono l _ n h
    obtain ⟨q1, q2, q3⟩ := fig_back hb
    simp only [Lib.parseUint10]
    rw [if_pos ⟨by omega, by omega⟩, if_neg (by omega), if_neg (by omega), show acc * 10 + (b.toNat - 48) = 10 * acc + (b.toNat - 48) by omega]
    exact num_parse l _ n h hn

theorem num_is {s : ByteArray} {n : Nat} (h : rNumD s = some n) : Lib.atoiAll s.data.toList = .ok (n : Int) ∧ s.data.toList.length ≤ 10 ∧ n ≤ 2147483647 ∧ Lib.itoa (n : Int) = s.data.toList := by
  unfold rNumD at h
  simp only at h
  generalize s.data.toList = l at *
  split at h; · cases h
  rename_i hc
  cases hm : rNumF 0 l with
  | none => rw [hm] at h; cases h
  | some m =>
    rw [hm] at h
    simp only at h
    split at h; · cases h
    injection h with h
    subst h
    have hne : l ≠ [] := fun e => hc (.inl (by rw [e]; rfl))
    have hh : l.length > 1 → l.headD 0 ≠ 48 := fun h1 h2 => hc (.inr (.inr ⟨h1, h2⟩))
    have e := dec_unique l.length l rfl hne hh m hm
    refine ⟨?_, by omega, by omega, by rw [Lib.itoa_nonneg, ← e]⟩
    cases l with
    | nil => exact absurd rfl hne
    | cons b r =>
      have hp := num_parse (b :: r) 0 m hm (by omega)
      have hb : isFig b = true := by
        simp only [rNumF] at hm
        split at hm
        · assumption
        · cases hm
      obtain ⟨q1, q2, q3⟩ := fig_back hb
      have hm2 : Lib.parseMag (b :: r) = .ok m := by unfold Lib.parseMag; rw [if_neg (by simp)]; exact hp
      simp only [Lib.atoiAll]
      rw [if_neg (by omega), hm2]
      simp only
      rw [if_neg (by omega), if_neg (by omega), if_neg (by omega)]

theorem is_num {s : ByteArray} {v : Int} (h0 : 0 ≤ v) (h1 : v ≤ 2147483647) (h10 : s.data.toList.length ≤ 10) (he : Lib.itoa v = s.data.toList) : rNumD s = some v.toNat := by
  obtain ⟨u, rfl⟩ : ∃ u : Nat, v = u := ⟨v.toNat, by omega⟩
  rw [Lib.itoa_nonneg] at he
  unfold rNumD
  simp only
  rw [← he] at h10 ⊢
  have hn := dec_num u
  have hne : (Lib.decDigits u).length ≠ 0 := by
    intro e
    rw [List.eq_nil_of_length_eq_zero e] at hn
    rw [Lib.decDigits] at e
    split at e <;> simp at e
  rw [if_neg ?_, hn]
  · simp only
    rw [if_neg (by omega)]
    simp
  · rintro (h | h | ⟨h, h'⟩)
    · exact hne h
    · omega
    · rcases Nat.eq_zero_or_pos u with h3 | h3
      · subst h3
        rw [dec_zero] at h
        simp at h
      · obtain ⟨b, r, e, hb⟩ := dec_head u h3
        rw [e] at h'
        exact hb h'

end Go.Hl
set_option linter.unusedSectionVars false
set_option linter.unusedVariables false
set_option linter.unusedSimpArgs false
set_option maxRecDepth 100000
namespace Go.Hl
open Go Go.Proofs Go.RowKit Go.Sort

def atoiD (s : ByteArray) (t : Nat) : D := match Lib.atoiAll s.data.toList with
  | .ok v => .tuple [.int .i64 v, .nili]
  | .range => .tuple [.int .i64 (Lib.atoiSat s.data.toList), .iface t .undef]
  | _ => .tuple [.int .i64 0, .iface t .undef]

theorem grow_below (w : World) (k : Nat) (os : Array Obj) : Below w.heap.size w (grow (w.drewN k) os) := by
  refine ⟨rfl, rfl, rfl, ?_, fun j hj => ?_⟩
  · show w.heap.size ≤ (w.heap ++ os).size
    rw [Array.size_append]
    omega
  · show (w.heap ++ os)[j]? = w.heap[j]?
    rw [Array.getElem?_append_left hj]

theorem errCell {σ : St} {g : G} {w : World} (hr : Rel Tryz.prog g σ w) {k : Nat} (h : ∃ t, σ.glob k = some [.iface t .undef]) : ∃ ev, w.cell? ⟨k, 0, none⟩ = some ev ∧ (ev = .nilIface ∨ ∃ te pe, ev = .iface te pe) := by
  obtain ⟨t, h⟩ := h
  obtain ⟨u, hu, hR⟩ := (hr.glob k _ h).cell (i := 0) (d := .iface t .undef) rfl
  simp only [R] at hR
  obtain ⟨p, rfl, _⟩ := hR
  exact ⟨_, hu, .inr ⟨_, _, rfl⟩⟩

theorem atoi_calls (s : ByteArray) (hs : s.size ≤ 140737488355328) (σ : St) (hg : GK σ) : HCalls Tryz.prog 77 [.str s] σ (fun d σ' => d = atoiD s 126 ∧ σ' = σ) := by
  refine hcalls_plain (by kernel_rfl) fun g w vs hr hl => ?_
  simp only [RL, R] at hl
  obtain ⟨u0, us, rfl, rfl, rfl⟩ := hl
  unfold atoiD
  cases h : Lib.atoiAll s.data.toList with
  | ok v =>
    refine (Tryz.strconv_Atoi_ok s (by omega) v h w).mono ?_
    rintro e w' ⟨rfl, hw⟩
    have hb : Below w.heap.size w w' := by
      rcases hw with rfl | ⟨t, rfl⟩
      · exact Below.refl _ _
      · exact below_bytes _ _ _
    obtain ⟨hE, hR⟩ := below_ER hr hb
    exact ⟨_, _, rfl, hE, hR, by simp only [R, RL]; exact ⟨_, rfl, _, _, rfl, rfl, _, _, rfl, rfl, rfl⟩, rfl, rfl⟩
  | range =>
    obtain ⟨ev, h1, h2⟩ := errCell hr hg.e2
    refine (Tryz.strconv_Atoi_range s (by omega) h ev w h1 h2).mono ?_
    rintro e w' ⟨N, rfl, _, _, hb⟩
    obtain ⟨hE, hR⟩ := below_ER hr hb
    exact ⟨_, _, rfl, hE, hR, by simp only [R, RL]; exact ⟨_, rfl, _, _, rfl, rfl, _, _, rfl, ⟨_, rfl, trivial⟩, rfl⟩, rfl, rfl⟩
  | _ =>
    obtain ⟨ev, h1, h2⟩ := errCell hr hg.e1
    refine (Tryz.strconv_Atoi_syntax s (by omega) h ev w h1 h2).mono ?_
    rintro e w' ⟨N, rfl, _, _, hb⟩
    obtain ⟨hE, hR⟩ := below_ER hr hb
    exact ⟨_, _, rfl, hE, hR, by simp only [R, RL]; exact ⟨_, rfl, _, _, rfl, rfl, _, _, rfl, ⟨_, rfl, trivial⟩, rfl⟩, rfl, rfl⟩

theorem itoa_calls (n : Int) (h0 : -9223372036854775808 ≤ n) (h1 : n ≤ 9223372036854775807) (σ : St) (hg : GK σ) : HCalls Tryz.prog 78 [.int .i64 n] σ (fun d σ' => d = .str ⟨(Lib.itoa n).toArray⟩ ∧ σ' = σ) := by
  refine hcalls_plain (by kernel_rfl) fun g w vs hr hl => ?_
  simp only [RL, R] at hl
  obtain ⟨u0, us, rfl, rfl, rfl⟩ := hl
  obtain ⟨e, z, hh⟩ := (hr.glob 4 _ hg.tab).ints
  refine (Tryz.strconv_Itoa n h0 h1 w ?_).mono ?_
  · unfold Lib.TabIs World.var?
    refine (congrArg (fun o => Option.bind o _) (by kernel_rfl : _ = some 4)).trans ?_
    simp [hh]
  rintro e w' ⟨rfl, k, os, rfl⟩
  obtain ⟨hE, hR⟩ := below_ER hr (grow_below w k os)
  exact ⟨_, _, rfl, hE, hR, by simp only [R], rfl, rfl⟩

end Go.Hl
set_option linter.unusedSectionVars false
set_option linter.unusedVariables false
set_option linter.unusedSimpArgs false
set_option maxRecDepth 100000
namespace Go.Hl
open Go Go.Proofs

def erD : Int → D
  | 0 => .nili
  | n => .iface 55 (.int .i64 n)
theorem erD_pos {n : Int} (h : n ≠ 0) : erD n = .iface 55 (.int .i64 n) := by
  unfold erD
  split
  · exact absurd rfl h
  · rfl
theorem erD_zero : erD 0 = .nili := rfl

theorem num_calls (n : Int) (σ : St) : HCalls Tryz.prog 7 [erD n] σ (fun d σ' => d = .int .i64 n ∧ σ' = σ) := by
  refine hcalls_body (fn := Tryz.f7) rfl c7 (by simp [h7]) (by simp [h7, Tryz.f7]) ?_
  intro M hP hr hnt hnx hwf hlt
  simp only [h7, argEnv]
  by_cases h0 : n = 0
  · subst h0
    simp only [erD_zero]
    refine hgo_sound 60 ?_
    simp -implicitDefEqProofs (maxSteps := 1000000) only [simpS, ↓condJ_true, ↓condJ_false, ↓reduceIte, Nat.reduceEqDiff, Nat.reduceLT, Nat.reduceLeDiff, reduceCtorEq, Nat.reduceAdd, Nat.reduceSub, bindG_none, addG_none, hgrpK_none, nestK_none, hgrpK_guarded, Option.map_none, beq_self_eq_true, bne_self_eq_false, Option.map_some, if_true, if_false, List.getD_cons_zero, List.getD_cons_succ, List.length_cons, List.length_nil, List.mem_cons, List.not_mem_nil, List.mem_append, List.nil_append, List.cons_append, List.append_nil, List.take_succ_cons, List.take_zero, List.drop_succ_cons, List.drop_zero, List.set_cons_zero, List.set_cons_succ, List.map_cons, List.map_nil, implies_true, forall_const, ne_eq]
    exact fpost_pure (σ0 := σ) (.inr rfl) (by rw [hnx]; exact Nat.le_refl _) hwf (Sub.refl σ) rfl trivial trivial ⟨rfl, rfl⟩
  · rw [erD_pos h0]
    have hne : (n != 0) = true := by simp [h0]
    refine hgo_sound 60 ?_
    simp -implicitDefEqProofs (maxSteps := 1000000) only [simpS, ↓condJ_true, ↓condJ_false, ↓reduceIte, Nat.reduceEqDiff, Nat.reduceLT, Nat.reduceLeDiff, reduceCtorEq, Nat.reduceAdd, Nat.reduceSub, bindG_none, addG_none, hgrpK_none, nestK_none, hgrpK_guarded, Option.map_none, beq_self_eq_true, bne_self_eq_false, Option.map_some, if_true, if_false, List.getD_cons_zero, List.getD_cons_succ, List.length_cons, List.length_nil, List.mem_cons, List.not_mem_nil, List.mem_append, List.nil_append, List.cons_append, List.append_nil, List.take_succ_cons, List.take_zero, List.drop_succ_cons, List.drop_zero, List.set_cons_zero, List.set_cons_succ, List.map_cons, List.map_nil, implies_true, forall_const, ne_eq, hne]
    exact fpost_pure (σ0 := σ) (.inr rfl) (by rw [hnx]; exact Nat.le_refl _) hwf (Sub.refl σ) rfl trivial trivial ⟨rfl, rfl⟩

def insP (b : UInt8) : Bool := isLet b || isFig b
def isWord (s : ByteArray) : Bool := match s.data.toList with
  | [] => false
  | b :: bs => decide (s.size ≤ 64) && (isLet b && (b :: bs).all insP)

theorem runTo_all (p : UInt8 → Bool) : ∀ l : List UInt8, runTo p l ≤ l.length ∧ (runTo p l = l.length ↔ l.all p = true)
  | [] => by simp [runTo]
  | b :: l => by
    obtain ⟨h1, h2⟩ := runTo_all p l
    simp only [runTo, List.length_cons, List.all_cons]
    by_cases hb : p b = true
    · simp only [hb, if_true, Bool.true_and]
      exact ⟨by omega, by rw [← h2]; omega⟩
    · simp only [hb, Bool.false_eq_true, if_false]
      have hb' : p b = false := by simpa using hb
      simp [hb']

theorem runAt_zero (p : UInt8 → Bool) (s : ByteArray) : runAt p s 0 = (runTo p s.data.toList : Int) := by
  have : runFrom s 0 = 0 := by unfold runFrom; omega
  unfold runAt
  rw [this, List.drop_zero, Nat.zero_add]

theorem runAt_all (p : UInt8 → Bool) (s : ByteArray) : (runAt p s 0 == (s.size : Int)) = s.data.toList.all p := by
  rw [runAt_zero]
  have h := (runTo_all p s.data.toList).2
  have hl : s.data.toList.length = s.size := by simp
  rw [hl] at h
  cases ha : s.data.toList.all p
  · rw [ha] at h
    simp only [Bool.false_eq_true, iff_false] at h
    simp only [beq_eq_false_iff_ne, ne_eq]
    omega
  · have := h.2 ha
    simp only [beq_iff_eq]
    omega

theorem word_calls (s : ByteArray) (hs : s.size ≤ 140737488355328) (σ : St) : HCalls Tryz.prog 68 [.str s] σ (fun d σ' => d = .bool (isWord s) ∧ σ' = σ) := by
  refine hcalls_body (fn := Tryz.f68) rfl c68 (by simp [h68]) (by simp [h68, Tryz.f68]) ?_
  intro M hP hr hnt hnx hwf hlt
  simp only [h68, argEnv]
  have hlen : s.data.toList.length = s.size := by simp
  by_cases h0 : s = ⟨#[]⟩
  · subst h0
    have hd : decide ((⟨#[]⟩ : ByteArray) = ⟨#[]⟩) = true := by simp
    refine hgo_sound 60 ?_
    simp -implicitDefEqProofs (maxSteps := 1000000) only [simpS, ↓condJ_true, ↓condJ_false, ↓reduceIte, Nat.reduceEqDiff, Nat.reduceLT, Nat.reduceLeDiff, reduceCtorEq, Nat.reduceAdd, Nat.reduceSub, bindG_none, addG_none, hgrpK_none, nestK_none, hgrpK_guarded, Option.map_none, beq_self_eq_true, bne_self_eq_false, Option.map_some, if_true, if_false, List.getD_cons_zero, List.getD_cons_succ, List.length_cons, List.length_nil, List.mem_cons, List.not_mem_nil, List.mem_append, List.nil_append, List.cons_append, List.append_nil, List.take_succ_cons, List.take_zero, List.drop_succ_cons, List.drop_zero, List.set_cons_zero, List.set_cons_succ, List.map_cons, List.map_nil, implies_true, forall_const, ne_eq, hd]
    exact fpost_pure (σ0 := σ) (.inr rfl) (by rw [hnx]; exact Nat.le_refl _) hwf (Sub.refl σ) rfl trivial trivial ⟨rfl, rfl⟩
  have hd : decide (s = ⟨#[]⟩) = false := by simp [h0]
  cases hl : s.data.toList with
  | nil =>
    exfalso
    apply h0
    cases s with
    | mk a => cases a with
      | mk l => simp at hl; rw [hl]
  | cons b bs =>
  have hsz : 0 < s.size := by rw [← hlen, hl]; simp
  have hsz2 : (0 : Int) < (s.size : Int) := by omega
  have hb : ((s.data.getD 0 0).toNat : Int) = (b.toNat : Int) := by
    have := byte_at s 0 hsz
    rw [this]
    simp [hl]
  have hw : isWord s = (decide (s.size ≤ 64) && (isLet b && (b :: bs).all insP)) := by unfold isWord; rw [hl]
  by_cases h64 : (s.size : Int) ≤ 64
  · have hd64 : decide ((s.size : Int) ≤ 64) = true := by simp [h64]
    have hdn : decide (s.size ≤ 64) = true := by simp; omega
    rw [hw, hdn, Bool.true_and]
    refine hgo_sound 60 ?_
    simp -implicitDefEqProofs (maxSteps := 1000000) only [simpS, ↓condJ_true, ↓condJ_false, ↓reduceIte, Nat.reduceEqDiff, Nat.reduceLT, Nat.reduceLeDiff, reduceCtorEq, Nat.reduceAdd, Nat.reduceSub, bindG_none, addG_none, hgrpK_none, nestK_none, hgrpK_guarded, Option.map_none, beq_self_eq_true, bne_self_eq_false, Option.map_some, if_true, if_false, List.getD_cons_zero, List.getD_cons_succ, List.length_cons, List.length_nil, List.mem_cons, List.not_mem_nil, List.mem_append, List.nil_append, List.cons_append, List.append_nil, List.take_succ_cons, List.take_zero, List.drop_succ_cons, List.drop_zero, List.set_cons_zero, List.set_cons_succ, List.map_cons, List.map_nil, implies_true, forall_const, ne_eq, hd, hd64, hsz2, hb, Int.toNat_zero, Int.le_refl, Int.reduceToNat]
    refine hx_call (f := .fn 64) rfl (by rw [hP]; exact hcallD_func (letter_calls b _)) ?_
    rintro _ σ2 ⟨rfl, h⟩
    subst σ2
    cases hbl : isLet b
    · refine hgo_sound 60 ?_
      simp -implicitDefEqProofs (maxSteps := 1000000) only [simpS, ↓condJ_true, ↓condJ_false, ↓reduceIte, Nat.reduceEqDiff, Nat.reduceLT, Nat.reduceLeDiff, reduceCtorEq, Nat.reduceAdd, Nat.reduceSub, bindG_none, addG_none, hgrpK_none, nestK_none, hgrpK_guarded, Option.map_none, beq_self_eq_true, bne_self_eq_false, Option.map_some, if_true, if_false, List.getD_cons_zero, List.getD_cons_succ, List.length_cons, List.length_nil, List.mem_cons, List.not_mem_nil, List.mem_append, List.nil_append, List.cons_append, List.append_nil, List.take_succ_cons, List.take_zero, List.drop_succ_cons, List.drop_zero, List.set_cons_zero, List.set_cons_succ, List.map_cons, List.map_nil, implies_true, forall_const, ne_eq]
      exact fpost_pure (σ0 := σ) (.inr rfl) (by rw [hnx]; exact Nat.le_refl _) hwf (Sub.refl σ) rfl trivial trivial ⟨rfl, rfl⟩
    · refine hgo_sound 60 ?_
      simp -implicitDefEqProofs (maxSteps := 1000000) only [simpS, ↓condJ_true, ↓condJ_false, ↓reduceIte, Nat.reduceEqDiff, Nat.reduceLT, Nat.reduceLeDiff, reduceCtorEq, Nat.reduceAdd, Nat.reduceSub, bindG_none, addG_none, hgrpK_none, nestK_none, hgrpK_guarded, Option.map_none, beq_self_eq_true, bne_self_eq_false, Option.map_some, if_true, if_false, List.getD_cons_zero, List.getD_cons_succ, List.length_cons, List.length_nil, List.mem_cons, List.not_mem_nil, List.mem_append, List.nil_append, List.cons_append, List.append_nil, List.take_succ_cons, List.take_zero, List.drop_succ_cons, List.drop_zero, List.set_cons_zero, List.set_cons_succ, List.map_cons, List.map_nil, implies_true, forall_const, ne_eq]
      refine hx_call (f := .fn 47) rfl (by rw [hP]; exact hcallD_func (run_calls s hs 0 80 insP (fun b σ => inside_calls b σ) _)) ?_
      rintro _ σ2 ⟨rfl, h⟩
      subst σ2
      rw [← hl]
      refine hgo_sound 60 ?_
      simp -implicitDefEqProofs (maxSteps := 1000000) only [simpS, ↓condJ_true, ↓condJ_false, ↓reduceIte, Nat.reduceEqDiff, Nat.reduceLT, Nat.reduceLeDiff, reduceCtorEq, Nat.reduceAdd, Nat.reduceSub, bindG_none, addG_none, hgrpK_none, nestK_none, hgrpK_guarded, Option.map_none, beq_self_eq_true, bne_self_eq_false, Option.map_some, if_true, if_false, List.getD_cons_zero, List.getD_cons_succ, List.length_cons, List.length_nil, List.mem_cons, List.not_mem_nil, List.mem_append, List.nil_append, List.cons_append, List.append_nil, List.take_succ_cons, List.take_zero, List.drop_succ_cons, List.drop_zero, List.set_cons_zero, List.set_cons_succ, List.map_cons, List.map_nil, implies_true, forall_const, ne_eq, runAt_all]
      exact fpost_pure (σ0 := σ) (.inr rfl) (by rw [hnx]; exact Nat.le_refl _) hwf (Sub.refl σ) rfl trivial trivial ⟨rfl, rfl⟩
  · have hd64 : decide ((s.size : Int) ≤ 64) = false := by simp; omega
    have hdn : decide (s.size ≤ 64) = false := by simp; omega
    rw [hw, hdn, Bool.false_and]
    refine hgo_sound 60 ?_
    simp -implicitDefEqProofs (maxSteps := 1000000) only [simpS, ↓condJ_true, ↓condJ_false, ↓reduceIte, Nat.reduceEqDiff, Nat.reduceLT, Nat.reduceLeDiff, reduceCtorEq, Nat.reduceAdd, Nat.reduceSub, bindG_none, addG_none, hgrpK_none, nestK_none, hgrpK_guarded, Option.map_none, beq_self_eq_true, bne_self_eq_false, Option.map_some, if_true, if_false, List.getD_cons_zero, List.getD_cons_succ, List.length_cons, List.length_nil, List.mem_cons, List.not_mem_nil, List.mem_append, List.nil_append, List.cons_append, List.append_nil, List.take_succ_cons, List.take_zero, List.drop_succ_cons, List.drop_zero, List.set_cons_zero, List.set_cons_succ, List.map_cons, List.map_nil, implies_true, forall_const, ne_eq, hd, hd64, hsz2, hb, Int.toNat_zero, Int.le_refl, Int.reduceToNat]
    exact fpost_pure (σ0 := σ) (.inr rfl) (by rw [hnx]; exact Nat.le_refl _) hwf (Sub.refl σ) rfl trivial trivial ⟨rfl, rfl⟩

def rOk (j : Nat) : List UInt8 → Bool
  | [] => true
  | b :: bs => (isLet b || (isFig b && decide (0 < j))) && rOk (j + 1) bs

structure RwdS where
  j : Nat

theorem rOk_in : ∀ (l : List UInt8) (j : Nat), 0 < j → rOk j l = l.all insP
  | [], j, h => rfl
  | b :: l, j, h => by
    simp only [rOk, List.all_cons, rOk_in l (j + 1) (by omega), insP]
    simp [h]

theorem rWord_eq (s : ByteArray) : (rOk 0 s.data.toList && (decide ((s.size : Int) > 0) && decide ((s.size : Int) < 65))) = isWord s := by
  have hl : s.data.toList.length = s.size := by simp
  unfold isWord
  cases h : s.data.toList with
  | nil =>
    rw [h] at hl
    simp at hl
    simp [← hl]
  | cons b bs =>
    rw [h] at hl
    simp at hl
    have h1 : decide ((s.size : Int) > 0) = true := by simp; omega
    have h2 : decide ((s.size : Int) < 65) = decide (s.size ≤ 64) := by
      simp only [decide_eq_decide]
      omega
    simp only [rOk, rOk_in bs 1 (by omega), List.all_cons, insP]
    rw [h1, h2]
    cases isLet b <;> cases decide (s.size ≤ 64) <;> simp

theorem rword_calls (s : ByteArray) (hs : s.size ≤ 140737488355328) (σ : St) : HCalls Tryz.prog 72 [.str s] σ (fun d σ' => d = .bool (isWord s) ∧ σ' = σ) := by
  refine hcalls_body (fn := Tryz.f72) rfl c72 (by simp [h72]) (by simp [h72, Tryz.f72]) ?_
  intro M hP hr hnt hnx hwf hlt
  simp only [h72, argEnv]
  rw [← rWord_eq]
  refine hgo_sound 60 ?_
  simp -implicitDefEqProofs (maxSteps := 1000000) only [simpS, ↓condJ_true, ↓condJ_false, ↓reduceIte, Nat.reduceEqDiff, Nat.reduceLT, Nat.reduceLeDiff, reduceCtorEq, Nat.reduceAdd, Nat.reduceSub, bindG_none, addG_none, hgrpK_none, nestK_none, hgrpK_guarded, Option.map_none, beq_self_eq_true, bne_self_eq_false, Option.map_some, if_true, if_false, List.getD_cons_zero, List.getD_cons_succ, List.length_cons, List.length_nil, List.mem_cons, List.not_mem_nil, List.mem_append, List.nil_append, List.cons_append, List.append_nil, List.take_succ_cons, List.take_zero, List.drop_succ_cons, List.drop_zero, List.set_cons_zero, List.set_cons_succ, List.map_cons, List.map_nil, implies_true, forall_const, ne_eq]
  refine hx_know_code fun hw hl1 hn1 => ?_
  refine hx_loop (S := RwdS) (fun t => [(0, .str s), (3, .int .i64 t.j)]) (fun _ => σ)
    (fun t => t.j ≤ s.size ∧ rOk t.j (s.data.toList.drop t.j) = rOk 0 s.data.toList) (fun t => s.size - t.j) ⟨0⟩ ⟨Nat.zero_le _, rfl⟩ (fun _ _ h => by rw [hr] at h; cases h) ?_ ?_
  · exact Drop.all hw hn1 ⟨⟨rfl, trivial⟩, ⟨rfl, trivial⟩, trivial⟩
  rintro ⟨j⟩ ⟨j1, j4⟩
  simp only at j1 j4 ⊢
  by_cases hj : j < s.size
  · have hjd : decide (((j : Nat) : Int) < (s.size : Int)) = true := by simp [hj]
    have hjp : ((j : Nat) : Int) < (s.size : Int) := by omega
    have hb : ((s.data.getD j 0).toNat : Int) = (((s.data.toList[j]'(by simpa using hj)).toNat : Nat) : Int) := byte_at s j hj
    have hd := drop_cons s j hj
    rw [hd] at j4
    simp only [rOk] at j4
    generalize s.data.toList[j]'(by simpa using hj) = b at *
    have hwr : IntKind.i64.wrap ((j : Int) + 1) = ((j + 1 : Nat) : Int) := by rw [IntWalk.i64_in _ (by omega)]; rfl
    refine hgo_sound 60 ?_
    simp -implicitDefEqProofs (maxSteps := 1000000) only [simpS, ↓condJ_true, ↓condJ_false, ↓reduceIte, Nat.reduceEqDiff, Nat.reduceLT, Nat.reduceLeDiff, reduceCtorEq, Nat.reduceAdd, Nat.reduceSub, bindG_none, addG_none, hgrpK_none, nestK_none, hgrpK_guarded, Option.map_none, beq_self_eq_true, bne_self_eq_false, Option.map_some, if_true, if_false, List.getD_cons_zero, List.getD_cons_succ, List.length_cons, List.length_nil, List.mem_cons, List.not_mem_nil, List.mem_append, List.nil_append, List.cons_append, List.append_nil, List.take_succ_cons, List.take_zero, List.drop_succ_cons, List.drop_zero, List.set_cons_zero, List.set_cons_succ, List.map_cons, List.map_nil, implies_true, forall_const, ne_eq, hjd, hjp, Int.toNat_natCast, Int.natCast_nonneg, hb]
    refine hx_call (f := .fn 70) rfl (by rw [hP]; exact hcallD_func (rLetter_calls b _)) ?_
    rintro _ σ2 ⟨rfl, h⟩
    subst σ2
    cases hbl : isLet b
    · refine hgo_sound 60 ?_
      simp -implicitDefEqProofs (maxSteps := 1000000) only [simpS, ↓condJ_true, ↓condJ_false, ↓reduceIte, Nat.reduceEqDiff, Nat.reduceLT, Nat.reduceLeDiff, reduceCtorEq, Nat.reduceAdd, Nat.reduceSub, bindG_none, addG_none, hgrpK_none, nestK_none, hgrpK_guarded, Option.map_none, beq_self_eq_true, bne_self_eq_false, Option.map_some, if_true, if_false, List.getD_cons_zero, List.getD_cons_succ, List.length_cons, List.length_nil, List.mem_cons, List.not_mem_nil, List.mem_append, List.nil_append, List.cons_append, List.append_nil, List.take_succ_cons, List.take_zero, List.drop_succ_cons, List.drop_zero, List.set_cons_zero, List.set_cons_succ, List.map_cons, List.map_nil, implies_true, forall_const, ne_eq, hjd, hjp, Int.toNat_natCast, Int.natCast_nonneg, hb]
      refine hx_call (f := .fn 71) rfl (by rw [hP]; exact hcallD_func (rFigure_calls b _)) ?_
      rintro _ σ2 ⟨rfl, h⟩
      subst σ2
      cases hbf : isFig b
      · rw [hbl, hbf] at j4
        simp only [Bool.false_or, Bool.false_and] at j4
        rw [← j4]
        refine hgo_sound 60 ?_
        simp -implicitDefEqProofs (maxSteps := 1000000) only [simpS, ↓condJ_true, ↓condJ_false, ↓reduceIte, Nat.reduceEqDiff, Nat.reduceLT, Nat.reduceLeDiff, reduceCtorEq, Nat.reduceAdd, Nat.reduceSub, bindG_none, addG_none, hgrpK_none, nestK_none, hgrpK_guarded, Option.map_none, beq_self_eq_true, bne_self_eq_false, Option.map_some, if_true, if_false, List.getD_cons_zero, List.getD_cons_succ, List.length_cons, List.length_nil, List.mem_cons, List.not_mem_nil, List.mem_append, List.nil_append, List.cons_append, List.append_nil, List.take_succ_cons, List.take_zero, List.drop_succ_cons, List.drop_zero, List.set_cons_zero, List.set_cons_succ, List.map_cons, List.map_nil, implies_true, forall_const, ne_eq]
        exact fpost_pure (σ0 := σ) (.inr rfl) (by rw [hnx]; exact Nat.le_refl _) hwf (Sub.refl σ) rfl trivial trivial ⟨rfl, rfl⟩
      · by_cases hj0 : 0 < j
        · have hj0d : decide ((j : Int) > 0) = true := by simp; omega
          have hj0e : decide (0 < j) = true := by simp [hj0]
          rw [hbl, hbf, hj0e] at j4
          simp only [Bool.false_or, Bool.true_and] at j4
          refine hgo_sound 60 ?_
          simp -implicitDefEqProofs (maxSteps := 1000000) only [simpS, ↓condJ_true, ↓condJ_false, ↓reduceIte, Nat.reduceEqDiff, Nat.reduceLT, Nat.reduceLeDiff, reduceCtorEq, Nat.reduceAdd, Nat.reduceSub, bindG_none, addG_none, hgrpK_none, nestK_none, hgrpK_guarded, Option.map_none, beq_self_eq_true, bne_self_eq_false, Option.map_some, if_true, if_false, List.getD_cons_zero, List.getD_cons_succ, List.length_cons, List.length_nil, List.mem_cons, List.not_mem_nil, List.mem_append, List.nil_append, List.cons_append, List.append_nil, List.take_succ_cons, List.take_zero, List.drop_succ_cons, List.drop_zero, List.set_cons_zero, List.set_cons_succ, List.map_cons, List.map_nil, implies_true, forall_const, ne_eq, hj0d, hwr]
          intro hw2 hl2 hn2
          refine ⟨⟨j + 1⟩, ⟨by simp only; omega, j4⟩, by simp only; omega, ?_⟩
          exact Drop.all hw2 hn2 ⟨⟨rfl, trivial⟩, ⟨rfl, trivial⟩, trivial⟩
        · have hj0d : decide ((j : Int) > 0) = false := by simp; omega
          have hj0e : decide (0 < j) = false := by simp; omega
          rw [hbl, hbf, hj0e] at j4
          simp only [Bool.false_or, Bool.and_false, Bool.false_and] at j4
          rw [← j4]
          refine hgo_sound 60 ?_
          simp -implicitDefEqProofs (maxSteps := 1000000) only [simpS, ↓condJ_true, ↓condJ_false, ↓reduceIte, Nat.reduceEqDiff, Nat.reduceLT, Nat.reduceLeDiff, reduceCtorEq, Nat.reduceAdd, Nat.reduceSub, bindG_none, addG_none, hgrpK_none, nestK_none, hgrpK_guarded, Option.map_none, beq_self_eq_true, bne_self_eq_false, Option.map_some, if_true, if_false, List.getD_cons_zero, List.getD_cons_succ, List.length_cons, List.length_nil, List.mem_cons, List.not_mem_nil, List.mem_append, List.nil_append, List.cons_append, List.append_nil, List.take_succ_cons, List.take_zero, List.drop_succ_cons, List.drop_zero, List.set_cons_zero, List.set_cons_succ, List.map_cons, List.map_nil, implies_true, forall_const, ne_eq, hj0d, hwr]
          exact fpost_pure (σ0 := σ) (.inr rfl) (by rw [hnx]; exact Nat.le_refl _) hwf (Sub.refl σ) rfl trivial trivial ⟨rfl, rfl⟩
    · rw [hbl, Bool.true_or, Bool.true_and] at j4
      refine hgo_sound 60 ?_
      simp -implicitDefEqProofs (maxSteps := 1000000) only [simpS, ↓condJ_true, ↓condJ_false, ↓reduceIte, Nat.reduceEqDiff, Nat.reduceLT, Nat.reduceLeDiff, reduceCtorEq, Nat.reduceAdd, Nat.reduceSub, bindG_none, addG_none, hgrpK_none, nestK_none, hgrpK_guarded, Option.map_none, beq_self_eq_true, bne_self_eq_false, Option.map_some, if_true, if_false, List.getD_cons_zero, List.getD_cons_succ, List.length_cons, List.length_nil, List.mem_cons, List.not_mem_nil, List.mem_append, List.nil_append, List.cons_append, List.append_nil, List.take_succ_cons, List.take_zero, List.drop_succ_cons, List.drop_zero, List.set_cons_zero, List.set_cons_succ, List.map_cons, List.map_nil, implies_true, forall_const, ne_eq, hjd, hjp, Int.toNat_natCast, Int.natCast_nonneg, hb, hwr]
      intro hw2 hl2 hn2
      refine ⟨⟨j + 1⟩, ⟨by simp only; omega, j4⟩, by simp only; omega, ?_⟩
      exact Drop.all hw2 hn2 ⟨⟨rfl, trivial⟩, ⟨rfl, trivial⟩, trivial⟩
  · have hjd : decide (((j : Nat) : Int) < (s.size : Int)) = false := by simp [hj]
    have hd : s.data.toList.drop j = [] := List.drop_eq_nil_of_le (by have : s.data.toList.length = s.size := (by simp); omega)
    rw [hd] at j4
    rw [← j4]
    simp only [rOk, Bool.true_and]
    cases hs0 : decide ((s.size : Int) > 0)
    · have hs0' := hs0
      refine hgo_sound 60 ?_
      simp -implicitDefEqProofs (maxSteps := 1000000) only [simpS, ↓condJ_true, ↓condJ_false, ↓reduceIte, Nat.reduceEqDiff, Nat.reduceLT, Nat.reduceLeDiff, reduceCtorEq, Nat.reduceAdd, Nat.reduceSub, bindG_none, addG_none, hgrpK_none, nestK_none, hgrpK_guarded, Option.map_none, beq_self_eq_true, bne_self_eq_false, Option.map_some, if_true, if_false, List.getD_cons_zero, List.getD_cons_succ, List.length_cons, List.length_nil, List.mem_cons, List.not_mem_nil, List.mem_append, List.nil_append, List.cons_append, List.append_nil, List.take_succ_cons, List.take_zero, List.drop_succ_cons, List.drop_zero, List.set_cons_zero, List.set_cons_succ, List.map_cons, List.map_nil, implies_true, forall_const, ne_eq, hjd, hs0]
      exact fpost_pure (σ0 := σ) (.inr rfl) (by rw [hnx]; exact Nat.le_refl _) hwf (Sub.refl σ) rfl trivial trivial ⟨rfl, rfl⟩
    · refine hgo_sound 60 ?_
      simp -implicitDefEqProofs (maxSteps := 1000000) only [simpS, ↓condJ_true, ↓condJ_false, ↓reduceIte, Nat.reduceEqDiff, Nat.reduceLT, Nat.reduceLeDiff, reduceCtorEq, Nat.reduceAdd, Nat.reduceSub, bindG_none, addG_none, hgrpK_none, nestK_none, hgrpK_guarded, Option.map_none, beq_self_eq_true, bne_self_eq_false, Option.map_some, if_true, if_false, List.getD_cons_zero, List.getD_cons_succ, List.length_cons, List.length_nil, List.mem_cons, List.not_mem_nil, List.mem_append, List.nil_append, List.cons_append, List.append_nil, List.take_succ_cons, List.take_zero, List.drop_succ_cons, List.drop_zero, List.set_cons_zero, List.set_cons_succ, List.map_cons, List.map_nil, implies_true, forall_const, ne_eq, hjd, hs0]
      exact fpost_pure (σ0 := σ) (.inr rfl) (by rw [hnx]; exact Nat.le_refl _) hwf (Sub.refl σ) rfl trivial trivial ⟨rfl, rfl⟩

end Go.Hl
set_option linter.unusedSectionVars false
set_option linter.unusedVariables false
set_option linter.unusedSimpArgs false
set_option maxRecDepth 100000
namespace Go.Hl
open Go Go.Proofs

theorem rname_calls (s : ByteArray) (hs : s.size ≤ 140737488355328) (σ : St) : HCalls Tryz.prog 58 [.str s] σ (fun d σ' => d = .bool (isWord s && !isKw s) ∧ σ' = σ) := by
  refine hcalls_body (fn := Tryz.f58) rfl c58 (by simp [h58]) (by simp [h58, Tryz.f58]) ?_
  intro M hP hr hnt hnx hwf hlt
  simp only [h58, argEnv]
  refine hgo_sound 60 ?_
  simp -implicitDefEqProofs (maxSteps := 1000000) only [simpS, ↓condJ_true, ↓condJ_false, ↓reduceIte, Nat.reduceEqDiff, Nat.reduceLT, Nat.reduceLeDiff, reduceCtorEq, Nat.reduceAdd, Nat.reduceSub, bindG_none, addG_none, hgrpK_none, nestK_none, hgrpK_guarded, Option.map_none, beq_self_eq_true, bne_self_eq_false, Option.map_some, if_true, if_false, List.getD_cons_zero, List.getD_cons_succ, List.length_cons, List.length_nil, List.mem_cons, List.not_mem_nil, List.mem_append, List.nil_append, List.cons_append, List.append_nil, List.take_succ_cons, List.take_zero, List.drop_succ_cons, List.drop_zero, List.set_cons_zero, List.set_cons_succ, List.map_cons, List.map_nil, implies_true, forall_const, ne_eq]
  refine hx_call (f := .fn 72) rfl (by rw [hP]; exact hcallD_func (rword_calls s hs _)) ?_
  rintro _ σ2 ⟨rfl, h⟩
  subst σ2
  cases hw : isWord s
  · refine hgo_sound 60 ?_
    simp -implicitDefEqProofs (maxSteps := 1000000) only [simpS, ↓condJ_true, ↓condJ_false, ↓reduceIte, Nat.reduceEqDiff, Nat.reduceLT, Nat.reduceLeDiff, reduceCtorEq, Nat.reduceAdd, Nat.reduceSub, bindG_none, addG_none, hgrpK_none, nestK_none, hgrpK_guarded, Option.map_none, beq_self_eq_true, bne_self_eq_false, Option.map_some, if_true, if_false, List.getD_cons_zero, List.getD_cons_succ, List.length_cons, List.length_nil, List.mem_cons, List.not_mem_nil, List.mem_append, List.nil_append, List.cons_append, List.append_nil, List.take_succ_cons, List.take_zero, List.drop_succ_cons, List.drop_zero, List.set_cons_zero, List.set_cons_succ, List.map_cons, List.map_nil, implies_true, forall_const, ne_eq]
    exact fpost_pure (σ0 := σ) (.inr rfl) (by rw [hnx]; exact Nat.le_refl _) hwf (Sub.refl σ) rfl trivial trivial ⟨rfl, rfl⟩
  · refine hgo_sound 60 ?_
    simp -implicitDefEqProofs (maxSteps := 1000000) only [simpS, ↓condJ_true, ↓condJ_false, ↓reduceIte, Nat.reduceEqDiff, Nat.reduceLT, Nat.reduceLeDiff, reduceCtorEq, Nat.reduceAdd, Nat.reduceSub, bindG_none, addG_none, hgrpK_none, nestK_none, hgrpK_guarded, Option.map_none, beq_self_eq_true, bne_self_eq_false, Option.map_some, if_true, if_false, List.getD_cons_zero, List.getD_cons_succ, List.length_cons, List.length_nil, List.mem_cons, List.not_mem_nil, List.mem_append, List.nil_append, List.cons_append, List.append_nil, List.take_succ_cons, List.take_zero, List.drop_succ_cons, List.drop_zero, List.set_cons_zero, List.set_cons_succ, List.map_cons, List.map_nil, implies_true, forall_const, ne_eq]
    refine hx_call (f := .fn 59) rfl (by rw [hP]; exact hcallD_func (rkeyword_calls s _)) ?_
    rintro _ σ2 ⟨rfl, h⟩
    subst σ2
    refine hgo_sound 60 ?_
    simp -implicitDefEqProofs (maxSteps := 1000000) only [simpS, ↓condJ_true, ↓condJ_false, ↓reduceIte, Nat.reduceEqDiff, Nat.reduceLT, Nat.reduceLeDiff, reduceCtorEq, Nat.reduceAdd, Nat.reduceSub, bindG_none, addG_none, hgrpK_none, nestK_none, hgrpK_guarded, Option.map_none, beq_self_eq_true, bne_self_eq_false, Option.map_some, if_true, if_false, List.getD_cons_zero, List.getD_cons_succ, List.length_cons, List.length_nil, List.mem_cons, List.not_mem_nil, List.mem_append, List.nil_append, List.cons_append, List.append_nil, List.take_succ_cons, List.take_zero, List.drop_succ_cons, List.drop_zero, List.set_cons_zero, List.set_cons_succ, List.map_cons, List.map_nil, implies_true, forall_const, ne_eq]
    exact fpost_pure (σ0 := σ) (.inr rfl) (by rw [hnx]; exact Nat.le_refl _) hwf (Sub.refl σ) rfl trivial trivial ⟨rfl, rfl⟩

def numV (s : ByteArray) : Int := match rNumD s with | some n => n | none => 0
def numE (s : ByteArray) : Int := match rNumD s with | some n => 0 | none => 2

theorem arr_eq (l : List UInt8) (s : ByteArray) : (⟨l.toArray⟩ : ByteArray) = s ↔ l = s.data.toList := by
  constructor
  · rintro rfl
    rfl
  · rintro rfl
    cases s
    simp

theorem num_none {s : ByteArray} (h : ∀ n : Nat, Lib.atoiAll s.data.toList = .ok (n : Int) → s.data.toList.length ≤ 10 → n ≤ 2147483647 → Lib.itoa (n : Int) = s.data.toList → False) : rNumD s = none := by
  cases hn : rNumD s with
  | none => rfl
  | some n =>
    obtain ⟨h1, h2, h3, h4⟩ := num_is hn
    exact (h n h1 h2 h3 h4).elim

theorem number_calls (s : ByteArray) (hs : s.size ≤ 140737488355328) (σ : St) (hg : GK σ) : HCalls Tryz.prog 66 [.str s] σ (fun d σ' => d = .tuple [.int .i64 (numV s), erD (numE s)] ∧ σ' = σ) := by
  refine hcalls_body (fn := Tryz.f66) rfl c66 (by simp [h66]) (by simp [h66, Tryz.f66]) ?_
  intro M hP hr hnt hnx hwf hlt
  simp only [h66, argEnv]
  have hlen : s.data.toList.length = s.size := by simp
  refine hgo_sound 60 ?_
  simp -implicitDefEqProofs (maxSteps := 1000000) only [simpS, ↓condJ_true, ↓condJ_false, ↓reduceIte, Nat.reduceEqDiff, Nat.reduceLT, Nat.reduceLeDiff, reduceCtorEq, Nat.reduceAdd, Nat.reduceSub, bindG_none, addG_none, hgrpK_none, nestK_none, hgrpK_guarded, Option.map_none, beq_self_eq_true, bne_self_eq_false, Option.map_some, if_true, if_false, List.getD_cons_zero, List.getD_cons_succ, List.length_cons, List.length_nil, List.mem_cons, List.not_mem_nil, List.mem_append, List.nil_append, List.cons_append, List.append_nil, List.take_succ_cons, List.take_zero, List.drop_succ_cons, List.drop_zero, List.set_cons_zero, List.set_cons_succ, List.map_cons, List.map_nil, implies_true, forall_const, ne_eq]
  refine hx_call (f := .fn 77) rfl (by rw [hP]; exact hcallD_func (atoi_calls s hs _ hg)) ?_
  rintro _ σ2 ⟨rfl, h⟩
  subst σ2
  unfold atoiD
  cases ha : Lib.atoiAll s.data.toList with
  | range =>
    have hno : rNumD s = none := num_none fun n e1 e2 e3 e4 => by
      rw [ha] at e1; cases e1
    simp only [numV, numE, hno]
    refine hgo_sound 60 ?_
    simp -implicitDefEqProofs (maxSteps := 1000000) only [simpS, ↓condJ_true, ↓condJ_false, ↓reduceIte, Nat.reduceEqDiff, Nat.reduceLT, Nat.reduceLeDiff, reduceCtorEq, Nat.reduceAdd, Nat.reduceSub, bindG_none, addG_none, hgrpK_none, nestK_none, hgrpK_guarded, Option.map_none, beq_self_eq_true, bne_self_eq_false, Option.map_some, if_true, if_false, List.getD_cons_zero, List.getD_cons_succ, List.length_cons, List.length_nil, List.mem_cons, List.not_mem_nil, List.mem_append, List.nil_append, List.cons_append, List.append_nil, List.take_succ_cons, List.take_zero, List.drop_succ_cons, List.drop_zero, List.set_cons_zero, List.set_cons_succ, List.map_cons, List.map_nil, implies_true, forall_const, ne_eq, erD]
    exact fpost_pure (σ0 := σ) (.inr rfl) (by rw [hnx]; exact Nat.le_refl _) hwf (Sub.refl σ) rfl trivial ⟨trivial, trivial, trivial⟩ ⟨rfl, rfl⟩
  | ok v =>
    by_cases q1 : (s.size : Int) > 10
    · have d1 : decide ((s.size : Int) > 10) = true := by simp [q1]
      have hno : rNumD s = none := num_none fun n e1 e2 e3 e4 => by
        omega
      simp only [numV, numE, hno]
      refine hgo_sound 60 ?_
      simp -implicitDefEqProofs (maxSteps := 1000000) only [simpS, ↓condJ_true, ↓condJ_false, ↓reduceIte, Nat.reduceEqDiff, Nat.reduceLT, Nat.reduceLeDiff, reduceCtorEq, Nat.reduceAdd, Nat.reduceSub, bindG_none, addG_none, hgrpK_none, nestK_none, hgrpK_guarded, Option.map_none, beq_self_eq_true, bne_self_eq_false, Option.map_some, if_true, if_false, List.getD_cons_zero, List.getD_cons_succ, List.length_cons, List.length_nil, List.mem_cons, List.not_mem_nil, List.mem_append, List.nil_append, List.cons_append, List.append_nil, List.take_succ_cons, List.take_zero, List.drop_succ_cons, List.drop_zero, List.set_cons_zero, List.set_cons_succ, List.map_cons, List.map_nil, implies_true, forall_const, ne_eq, erD, d1]
      exact fpost_pure (σ0 := σ) (.inr rfl) (by rw [hnx]; exact Nat.le_refl _) hwf (Sub.refl σ) rfl trivial ⟨trivial, trivial, trivial⟩ ⟨rfl, rfl⟩
    have d1 : decide ((s.size : Int) > 10) = false := by simp; omega
    by_cases q2 : v < 0
    · have d2 : decide (v < 0) = true := by simp [q2]
      have hno : rNumD s = none := num_none fun n e1 e2 e3 e4 => by
        rw [ha] at e1; injection e1 with e1; omega
      simp only [numV, numE, hno]
      refine hgo_sound 60 ?_
      simp -implicitDefEqProofs (maxSteps := 1000000) only [simpS, ↓condJ_true, ↓condJ_false, ↓reduceIte, Nat.reduceEqDiff, Nat.reduceLT, Nat.reduceLeDiff, reduceCtorEq, Nat.reduceAdd, Nat.reduceSub, bindG_none, addG_none, hgrpK_none, nestK_none, hgrpK_guarded, Option.map_none, beq_self_eq_true, bne_self_eq_false, Option.map_some, if_true, if_false, List.getD_cons_zero, List.getD_cons_succ, List.length_cons, List.length_nil, List.mem_cons, List.not_mem_nil, List.mem_append, List.nil_append, List.cons_append, List.append_nil, List.take_succ_cons, List.take_zero, List.drop_succ_cons, List.drop_zero, List.set_cons_zero, List.set_cons_succ, List.map_cons, List.map_nil, implies_true, forall_const, ne_eq, erD, d1, d2]
      exact fpost_pure (σ0 := σ) (.inr rfl) (by rw [hnx]; exact Nat.le_refl _) hwf (Sub.refl σ) rfl trivial ⟨trivial, trivial, trivial⟩ ⟨rfl, rfl⟩
    have d2 : decide (v < 0) = false := by simp; omega
    by_cases q3 : v > 2147483647
    · have d3 : decide (v > 2147483647) = true := by simp [q3]
      have hno : rNumD s = none := num_none fun n e1 e2 e3 e4 => by
        rw [ha] at e1; injection e1 with e1; omega
      simp only [numV, numE, hno]
      refine hgo_sound 60 ?_
      simp -implicitDefEqProofs (maxSteps := 1000000) only [simpS, ↓condJ_true, ↓condJ_false, ↓reduceIte, Nat.reduceEqDiff, Nat.reduceLT, Nat.reduceLeDiff, reduceCtorEq, Nat.reduceAdd, Nat.reduceSub, bindG_none, addG_none, hgrpK_none, nestK_none, hgrpK_guarded, Option.map_none, beq_self_eq_true, bne_self_eq_false, Option.map_some, if_true, if_false, List.getD_cons_zero, List.getD_cons_succ, List.length_cons, List.length_nil, List.mem_cons, List.not_mem_nil, List.mem_append, List.nil_append, List.cons_append, List.append_nil, List.take_succ_cons, List.take_zero, List.drop_succ_cons, List.drop_zero, List.set_cons_zero, List.set_cons_succ, List.map_cons, List.map_nil, implies_true, forall_const, ne_eq, erD, d1, d2, d3]
      exact fpost_pure (σ0 := σ) (.inr rfl) (by rw [hnx]; exact Nat.le_refl _) hwf (Sub.refl σ) rfl trivial ⟨trivial, trivial, trivial⟩ ⟨rfl, rfl⟩
    have d3 : decide (v > 2147483647) = false := by simp; omega
    refine hgo_sound 60 ?_
    simp -implicitDefEqProofs (maxSteps := 1000000) only [simpS, ↓condJ_true, ↓condJ_false, ↓reduceIte, Nat.reduceEqDiff, Nat.reduceLT, Nat.reduceLeDiff, reduceCtorEq, Nat.reduceAdd, Nat.reduceSub, bindG_none, addG_none, hgrpK_none, nestK_none, hgrpK_guarded, Option.map_none, beq_self_eq_true, bne_self_eq_false, Option.map_some, if_true, if_false, List.getD_cons_zero, List.getD_cons_succ, List.length_cons, List.length_nil, List.mem_cons, List.not_mem_nil, List.mem_append, List.nil_append, List.cons_append, List.append_nil, List.take_succ_cons, List.take_zero, List.drop_succ_cons, List.drop_zero, List.set_cons_zero, List.set_cons_succ, List.map_cons, List.map_nil, implies_true, forall_const, ne_eq, d1, d2, d3]
    refine hx_call (f := .fn 78) rfl (by rw [hP]; exact hcallD_func (itoa_calls v (by omega) (by omega) _ hg)) ?_
    rintro _ σ2 ⟨rfl, h⟩
    subst σ2
    by_cases q4 : (⟨(Lib.itoa v).toArray⟩ : ByteArray) = s
    · have d4 : decide ((⟨(Lib.itoa v).toArray⟩ : ByteArray) = s) = true := by simp [q4]
      have hy := is_num (s := s) (v := v) (by omega) (by omega) (by omega) ((arr_eq _ _).1 q4)
      have hv : ((v.toNat : Nat) : Int) = v := by omega
      simp only [numV, numE, hy, hv]
      refine hgo_sound 60 ?_
      simp -implicitDefEqProofs (maxSteps := 1000000) only [simpS, ↓condJ_true, ↓condJ_false, ↓reduceIte, Nat.reduceEqDiff, Nat.reduceLT, Nat.reduceLeDiff, reduceCtorEq, Nat.reduceAdd, Nat.reduceSub, bindG_none, addG_none, hgrpK_none, nestK_none, hgrpK_guarded, Option.map_none, beq_self_eq_true, bne_self_eq_false, Option.map_some, if_true, if_false, List.getD_cons_zero, List.getD_cons_succ, List.length_cons, List.length_nil, List.mem_cons, List.not_mem_nil, List.mem_append, List.nil_append, List.cons_append, List.append_nil, List.take_succ_cons, List.take_zero, List.drop_succ_cons, List.drop_zero, List.set_cons_zero, List.set_cons_succ, List.map_cons, List.map_nil, implies_true, forall_const, ne_eq, d4, erD]
      exact fpost_pure (σ0 := σ) (.inr rfl) (by rw [hnx]; exact Nat.le_refl _) hwf (Sub.refl σ) rfl trivial ⟨trivial, trivial, trivial⟩ ⟨rfl, rfl⟩
    · have d4 : decide ((⟨(Lib.itoa v).toArray⟩ : ByteArray) = s) = false := by simp [q4]
      have hno : rNumD s = none := num_none fun n e1 e2 e3 e4 => by
        exact q4 ((arr_eq _ _).2 (by rw [ha] at e1; injection e1 with e1; rw [e1]; exact e4))
      simp only [numV, numE, hno]
      refine hgo_sound 60 ?_
      simp -implicitDefEqProofs (maxSteps := 1000000) only [simpS, ↓condJ_true, ↓condJ_false, ↓reduceIte, Nat.reduceEqDiff, Nat.reduceLT, Nat.reduceLeDiff, reduceCtorEq, Nat.reduceAdd, Nat.reduceSub, bindG_none, addG_none, hgrpK_none, nestK_none, hgrpK_guarded, Option.map_none, beq_self_eq_true, bne_self_eq_false, Option.map_some, if_true, if_false, List.getD_cons_zero, List.getD_cons_succ, List.length_cons, List.length_nil, List.mem_cons, List.not_mem_nil, List.mem_append, List.nil_append, List.cons_append, List.append_nil, List.take_succ_cons, List.take_zero, List.drop_succ_cons, List.drop_zero, List.set_cons_zero, List.set_cons_succ, List.map_cons, List.map_nil, implies_true, forall_const, ne_eq, erD, d4]
      exact fpost_pure (σ0 := σ) (.inr rfl) (by rw [hnx]; exact Nat.le_refl _) hwf (Sub.refl σ) rfl trivial ⟨trivial, trivial, trivial⟩ ⟨rfl, rfl⟩
  | _ =>
    have hno : rNumD s = none := num_none fun n e1 e2 e3 e4 => by
      rw [ha] at e1; cases e1
    simp only [numV, numE, hno]
    refine hgo_sound 60 ?_
    simp -implicitDefEqProofs (maxSteps := 1000000) only [simpS, ↓condJ_true, ↓condJ_false, ↓reduceIte, Nat.reduceEqDiff, Nat.reduceLT, Nat.reduceLeDiff, reduceCtorEq, Nat.reduceAdd, Nat.reduceSub, bindG_none, addG_none, hgrpK_none, nestK_none, hgrpK_guarded, Option.map_none, beq_self_eq_true, bne_self_eq_false, Option.map_some, if_true, if_false, List.getD_cons_zero, List.getD_cons_succ, List.length_cons, List.length_nil, List.mem_cons, List.not_mem_nil, List.mem_append, List.nil_append, List.cons_append, List.append_nil, List.take_succ_cons, List.take_zero, List.drop_succ_cons, List.drop_zero, List.set_cons_zero, List.set_cons_succ, List.map_cons, List.map_nil, implies_true, forall_const, ne_eq, erD]
    exact fpost_pure (σ0 := σ) (.inr rfl) (by rw [hnx]; exact Nat.le_refl _) hwf (Sub.refl σ) rfl trivial ⟨trivial, trivial, trivial⟩ ⟨rfl, rfl⟩

structure RnuS where
  j : Nat
  n : Nat

theorem headD_at (s : ByteArray) (h : 0 < s.size) : ((s.data.getD 0 0).toNat : Int) = ((s.data.toList.headD 0).toNat : Int) := by
  have key : ∀ (l : List UInt8) (h : 0 < l.length), l[0] = l.headD 0 := fun l h => by
    cases l with
    | nil => simp at h
    | cons b bs => rfl
  rw [byte_at s 0 h, key]

def numB (s : ByteArray) : Bool := match rNumD s with | some n => true | none => false

theorem rnumber_calls (s : ByteArray) (hs : s.size ≤ 140737488355328) (σ : St) : HCalls Tryz.prog 57 [.str s] σ (fun d σ' => d = .tuple [.int .i64 (numV s), .bool (numB s)] ∧ σ' = σ) := by
  refine hcalls_body (fn := Tryz.f57) rfl c57 (by simp [h57]) (by simp [h57, Tryz.f57]) ?_
  intro M hP hr hnt hnx hwf hlt
  simp only [h57, argEnv]
  have hlen : s.data.toList.length = s.size := by simp
  by_cases q1 : s.size = 0
  · have d1 : ((s.size : Int) == 0) = true := by simp [q1]
    have hno : rNumD s = none := by unfold rNumD; simp only; rw [if_pos (by omega)]
    simp only [numV, numB, hno]
    refine hgo_sound 60 ?_
    simp -implicitDefEqProofs (maxSteps := 1000000) only [simpS, ↓condJ_true, ↓condJ_false, ↓reduceIte, Nat.reduceEqDiff, Nat.reduceLT, Nat.reduceLeDiff, reduceCtorEq, Nat.reduceAdd, Nat.reduceSub, bindG_none, addG_none, hgrpK_none, nestK_none, hgrpK_guarded, Option.map_none, beq_self_eq_true, bne_self_eq_false, Option.map_some, if_true, if_false, List.getD_cons_zero, List.getD_cons_succ, List.length_cons, List.length_nil, List.mem_cons, List.not_mem_nil, List.mem_append, List.nil_append, List.cons_append, List.append_nil, List.take_succ_cons, List.take_zero, List.drop_succ_cons, List.drop_zero, List.set_cons_zero, List.set_cons_succ, List.map_cons, List.map_nil, implies_true, forall_const, ne_eq, d1]
    exact fpost_pure (σ0 := σ) (.inr rfl) (by rw [hnx]; exact Nat.le_refl _) hwf (Sub.refl σ) rfl trivial ⟨trivial, trivial, trivial⟩ ⟨rfl, rfl⟩
  have d1 : ((s.size : Int) == 0) = false := by simp only [beq_eq_false_iff_ne, ne_eq]; omega
  by_cases q2 : s.size > 10
  · have d2 : decide ((s.size : Int) > 10) = true := by simp; omega
    have hno : rNumD s = none := by unfold rNumD; simp only; rw [if_pos (.inr (.inl (by omega)))]
    simp only [numV, numB, hno]
    refine hgo_sound 60 ?_
    simp -implicitDefEqProofs (maxSteps := 1000000) only [simpS, ↓condJ_true, ↓condJ_false, ↓reduceIte, Nat.reduceEqDiff, Nat.reduceLT, Nat.reduceLeDiff, reduceCtorEq, Nat.reduceAdd, Nat.reduceSub, bindG_none, addG_none, hgrpK_none, nestK_none, hgrpK_guarded, Option.map_none, beq_self_eq_true, bne_self_eq_false, Option.map_some, if_true, if_false, List.getD_cons_zero, List.getD_cons_succ, List.length_cons, List.length_nil, List.mem_cons, List.not_mem_nil, List.mem_append, List.nil_append, List.cons_append, List.append_nil, List.take_succ_cons, List.take_zero, List.drop_succ_cons, List.drop_zero, List.set_cons_zero, List.set_cons_succ, List.map_cons, List.map_nil, implies_true, forall_const, ne_eq, d1, d2]
    exact fpost_pure (σ0 := σ) (.inr rfl) (by rw [hnx]; exact Nat.le_refl _) hwf (Sub.refl σ) rfl trivial ⟨trivial, trivial, trivial⟩ ⟨rfl, rfl⟩
  have d2 : decide ((s.size : Int) > 10) = false := by simp; omega
  have hpos : (0 : Int) < (s.size : Int) := by omega
  have hh := headD_at s (by omega)
  have hmain : (s.size > 1 ∧ s.data.toList.headD 0 = 48) ∨ ¬ (s.size > 1 ∧ s.data.toList.headD 0 = 48) := Classical.em _
  rcases hmain with q3 | q3
  · have d3 : decide ((s.size : Int) > 1) = true := by simp; omega
    have d4 : ((s.data.getD 0 0).toNat : Int) == 48 := by rw [hh, q3.2]; rfl
    have d4 : (((s.data.getD 0 0).toNat : Int) == 48) = true := d4
    have hno : rNumD s = none := by unfold rNumD; simp only; rw [if_pos (.inr (.inr ⟨by omega, q3.2⟩))]
    simp only [numV, numB, hno]
    refine hgo_sound 60 ?_
    simp -implicitDefEqProofs (maxSteps := 1000000) only [simpS, ↓condJ_true, ↓condJ_false, ↓reduceIte, Nat.reduceEqDiff, Nat.reduceLT, Nat.reduceLeDiff, reduceCtorEq, Nat.reduceAdd, Nat.reduceSub, bindG_none, addG_none, hgrpK_none, nestK_none, hgrpK_guarded, Option.map_none, beq_self_eq_true, bne_self_eq_false, Option.map_some, if_true, if_false, List.getD_cons_zero, List.getD_cons_succ, List.length_cons, List.length_nil, List.mem_cons, List.not_mem_nil, List.mem_append, List.nil_append, List.cons_append, List.append_nil, List.take_succ_cons, List.take_zero, List.drop_succ_cons, List.drop_zero, List.set_cons_zero, List.set_cons_succ, List.map_cons, List.map_nil, implies_true, forall_const, ne_eq, d1, d2, d3, d4, hpos, Int.toNat_zero, Int.le_refl, Int.reduceToNat]
    exact fpost_pure (σ0 := σ) (.inr rfl) (by rw [hnx]; exact Nat.le_refl _) hwf (Sub.refl σ) rfl trivial ⟨trivial, trivial, trivial⟩ ⟨rfl, rfl⟩
  have hgo : rNumD s = match rNumF 0 s.data.toList with
      | none => none
      | some n => if n > 2147483647 then none else some n := by
    unfold rNumD
    simp only
    rw [if_neg ?_]
    · rfl
    · rintro (e | e | e)
      · omega
      · omega
      · exact q3 ⟨by omega, e.2⟩
  have loop : ∀ (e : Env), look e 0 = .str s → look e 4 = .int .i64 0 → look e 5 = .int .i64 0 → allE σ.next e [(0, .str s), (4, .int .i64 0), (5, .int .i64 0)] := fun e e0 e4 e5 => ⟨⟨e0.symm, trivial⟩, ⟨e4.symm, trivial⟩, ⟨e5.symm, trivial⟩, trivial⟩
  cases d3 : decide ((s.size : Int) > 1)
  · refine hgo_sound 60 ?_
    simp -implicitDefEqProofs (maxSteps := 1000000) only [simpS, ↓condJ_true, ↓condJ_false, ↓reduceIte, Nat.reduceEqDiff, Nat.reduceLT, Nat.reduceLeDiff, reduceCtorEq, Nat.reduceAdd, Nat.reduceSub, bindG_none, addG_none, hgrpK_none, nestK_none, hgrpK_guarded, Option.map_none, beq_self_eq_true, bne_self_eq_false, Option.map_some, if_true, if_false, List.getD_cons_zero, List.getD_cons_succ, List.length_cons, List.length_nil, List.mem_cons, List.not_mem_nil, List.mem_append, List.nil_append, List.cons_append, List.append_nil, List.take_succ_cons, List.take_zero, List.drop_succ_cons, List.drop_zero, List.set_cons_zero, List.set_cons_succ, List.map_cons, List.map_nil, implies_true, forall_const, ne_eq, d1, d2, d3, hpos, Int.toNat_zero, Int.le_refl, Int.reduceToNat]
    refine hx_know_code fun hw hl1 hn1 => ?_
    refine hx_loop (S := RnuS) (fun t => [(0, .str s), (4, .int .i64 t.n), (5, .int .i64 t.j)]) (fun _ => σ)
      (fun t => t.j ≤ s.size ∧ rNumF t.n (s.data.toList.drop t.j) = rNumF 0 s.data.toList ∧ t.n < 10 ^ t.j) (fun t => s.size - t.j) ⟨0, 0⟩ ⟨Nat.zero_le _, rfl, by simp⟩ (fun _ _ h => by rw [hr] at h; cases h) ?_ ?_
    · exact Drop.all hw hn1 (loop _ rfl rfl rfl)
    rintro ⟨j, n⟩ ⟨j1, j4, j5⟩
    simp only at j1 j4 j5 ⊢
    have hp10 : 10 ^ j ≤ 10 ^ 10 := Nat.pow_le_pow_right (by omega) (by omega)
    have hp11 : 10 ^ (j + 1) = 10 * 10 ^ j := by rw [Nat.pow_succ]; omega
    by_cases hj : j < s.size
    · have hjd : decide (((j : Nat) : Int) < (s.size : Int)) = true := by simp [hj]
      have hjp : ((j : Nat) : Int) < (s.size : Int) := by omega
      have hb : ((s.data.getD j 0).toNat : Int) = (((s.data.toList[j]'(by simpa using hj)).toNat : Nat) : Int) := byte_at s j hj
      have hd := drop_cons s j hj
      rw [hd] at j4
      simp only [rNumF] at j4
      generalize s.data.toList[j]'(by simpa using hj) = b at *
      have hwr : IntKind.i64.wrap ((j : Int) + 1) = ((j + 1 : Nat) : Int) := by rw [IntWalk.i64_in _ (by omega)]; rfl
      refine hgo_sound 60 ?_
      simp -implicitDefEqProofs (maxSteps := 1000000) only [simpS, ↓condJ_true, ↓condJ_false, ↓reduceIte, Nat.reduceEqDiff, Nat.reduceLT, Nat.reduceLeDiff, reduceCtorEq, Nat.reduceAdd, Nat.reduceSub, bindG_none, addG_none, hgrpK_none, nestK_none, hgrpK_guarded, Option.map_none, beq_self_eq_true, bne_self_eq_false, Option.map_some, if_true, if_false, List.getD_cons_zero, List.getD_cons_succ, List.length_cons, List.length_nil, List.mem_cons, List.not_mem_nil, List.mem_append, List.nil_append, List.cons_append, List.append_nil, List.take_succ_cons, List.take_zero, List.drop_succ_cons, List.drop_zero, List.set_cons_zero, List.set_cons_succ, List.map_cons, List.map_nil, implies_true, forall_const, ne_eq, hjd, hjp, Int.toNat_natCast, Int.natCast_nonneg, hb]
      refine hx_call (f := .fn 71) rfl (by rw [hP]; exact hcallD_func (rFigure_calls b _)) ?_
      rintro _ σ2 ⟨rfl, h⟩
      subst σ2
      cases hbf : isFig b
      · rw [hbf] at j4
        have hno : rNumD s = none := by rw [hgo, ← j4]; rfl
        simp only [numV, numB, hno]
        refine hgo_sound 60 ?_
        simp -implicitDefEqProofs (maxSteps := 1000000) only [simpS, ↓condJ_true, ↓condJ_false, ↓reduceIte, Nat.reduceEqDiff, Nat.reduceLT, Nat.reduceLeDiff, reduceCtorEq, Nat.reduceAdd, Nat.reduceSub, bindG_none, addG_none, hgrpK_none, nestK_none, hgrpK_guarded, Option.map_none, beq_self_eq_true, bne_self_eq_false, Option.map_some, if_true, if_false, List.getD_cons_zero, List.getD_cons_succ, List.length_cons, List.length_nil, List.mem_cons, List.not_mem_nil, List.mem_append, List.nil_append, List.cons_append, List.append_nil, List.take_succ_cons, List.take_zero, List.drop_succ_cons, List.drop_zero, List.set_cons_zero, List.set_cons_succ, List.map_cons, List.map_nil, implies_true, forall_const, ne_eq]
        exact fpost_pure (σ0 := σ) (.inr rfl) (by rw [hnx]; exact Nat.le_refl _) hwf (Sub.refl σ) rfl trivial ⟨trivial, trivial, trivial⟩ ⟨rfl, rfl⟩
      · rw [hbf, if_pos rfl] at j4
        obtain ⟨f1, f2, f3⟩ := fig_back hbf
        have hbw : IntKind.i64.wrap (b.toNat : Int) = (b.toNat : Int) := IntWalk.i64_in _ (by omega)
        have hw1 : IntKind.i64.wrap (10 * (n : Int)) = 10 * (n : Int) := IntWalk.i64_in _ (by omega)
        have hw2 : IntKind.i64.wrap (10 * (n : Int) + (b.toNat : Int)) = 10 * (n : Int) + (b.toNat : Int) := IntWalk.i64_in _ (by omega)
        have hw3 : IntKind.i64.wrap (10 * (n : Int) + (b.toNat : Int) - 48) = ((10 * n + (b.toNat - 48) : Nat) : Int) := by rw [IntWalk.i64_in _ (by omega)]; omega
        refine hgo_sound 60 ?_
        simp -implicitDefEqProofs (maxSteps := 1000000) only [simpS, ↓condJ_true, ↓condJ_false, ↓reduceIte, Nat.reduceEqDiff, Nat.reduceLT, Nat.reduceLeDiff, reduceCtorEq, Nat.reduceAdd, Nat.reduceSub, bindG_none, addG_none, hgrpK_none, nestK_none, hgrpK_guarded, Option.map_none, beq_self_eq_true, bne_self_eq_false, Option.map_some, if_true, if_false, List.getD_cons_zero, List.getD_cons_succ, List.length_cons, List.length_nil, List.mem_cons, List.not_mem_nil, List.mem_append, List.nil_append, List.cons_append, List.append_nil, List.take_succ_cons, List.take_zero, List.drop_succ_cons, List.drop_zero, List.set_cons_zero, List.set_cons_succ, List.map_cons, List.map_nil, implies_true, forall_const, ne_eq, hjp, Int.toNat_natCast, Int.natCast_nonneg, hb, hwr, hbw, hw1, hw2, hw3]
        intro hw4 hl2 hn2
        refine ⟨⟨j + 1, 10 * n + (b.toNat - 48)⟩, ⟨by simp only; omega, j4, by simp only; rw [hp11]; omega⟩, by simp only; omega, ?_⟩
        exact Drop.all hw4 hn2 ⟨⟨rfl, trivial⟩, ⟨rfl, trivial⟩, ⟨rfl, trivial⟩, trivial⟩
    · have hjd : decide (((j : Nat) : Int) < (s.size : Int)) = false := by simp [hj]
      have hd : s.data.toList.drop j = [] := List.drop_eq_nil_of_le (by omega)
      rw [hd] at j4
      simp only [rNumF] at j4
      rw [← j4] at hgo
      simp only at hgo
      by_cases hm : n > 2147483647
      · have hmd : decide ((n : Int) > 2147483647) = true := by simp; omega
        rw [if_pos hm] at hgo
        simp only [numV, numB, hgo]
        refine hgo_sound 60 ?_
        simp -implicitDefEqProofs (maxSteps := 1000000) only [simpS, ↓condJ_true, ↓condJ_false, ↓reduceIte, Nat.reduceEqDiff, Nat.reduceLT, Nat.reduceLeDiff, reduceCtorEq, Nat.reduceAdd, Nat.reduceSub, bindG_none, addG_none, hgrpK_none, nestK_none, hgrpK_guarded, Option.map_none, beq_self_eq_true, bne_self_eq_false, Option.map_some, if_true, if_false, List.getD_cons_zero, List.getD_cons_succ, List.length_cons, List.length_nil, List.mem_cons, List.not_mem_nil, List.mem_append, List.nil_append, List.cons_append, List.append_nil, List.take_succ_cons, List.take_zero, List.drop_succ_cons, List.drop_zero, List.set_cons_zero, List.set_cons_succ, List.map_cons, List.map_nil, implies_true, forall_const, ne_eq, hjd, hmd]
        exact fpost_pure (σ0 := σ) (.inr rfl) (by rw [hnx]; exact Nat.le_refl _) hwf (Sub.refl σ) rfl trivial ⟨trivial, trivial, trivial⟩ ⟨rfl, rfl⟩
      · have hmd : decide ((n : Int) > 2147483647) = false := by simp; omega
        rw [if_neg hm] at hgo
        simp only [numV, numB, hgo]
        refine hgo_sound 60 ?_
        simp -implicitDefEqProofs (maxSteps := 1000000) only [simpS, ↓condJ_true, ↓condJ_false, ↓reduceIte, Nat.reduceEqDiff, Nat.reduceLT, Nat.reduceLeDiff, reduceCtorEq, Nat.reduceAdd, Nat.reduceSub, bindG_none, addG_none, hgrpK_none, nestK_none, hgrpK_guarded, Option.map_none, beq_self_eq_true, bne_self_eq_false, Option.map_some, if_true, if_false, List.getD_cons_zero, List.getD_cons_succ, List.length_cons, List.length_nil, List.mem_cons, List.not_mem_nil, List.mem_append, List.nil_append, List.cons_append, List.append_nil, List.take_succ_cons, List.take_zero, List.drop_succ_cons, List.drop_zero, List.set_cons_zero, List.set_cons_succ, List.map_cons, List.map_nil, implies_true, forall_const, ne_eq, hjd, hmd]
        exact fpost_pure (σ0 := σ) (.inr rfl) (by rw [hnx]; exact Nat.le_refl _) hwf (Sub.refl σ) rfl trivial ⟨trivial, trivial, trivial⟩ ⟨rfl, rfl⟩
  · have d4 : (((s.data.getD 0 0).toNat : Int) == 48) = false := by
      rw [hh]
      simp only [beq_eq_false_iff_ne, ne_eq]
      intro e
      refine q3 ⟨by simp at d3; omega, ?_⟩
      apply UInt8.toNat_inj.1
      have : (48 : UInt8).toNat = 48 := rfl
      omega
    refine hgo_sound 60 ?_
    simp -implicitDefEqProofs (maxSteps := 1000000) only [simpS, ↓condJ_true, ↓condJ_false, ↓reduceIte, Nat.reduceEqDiff, Nat.reduceLT, Nat.reduceLeDiff, reduceCtorEq, Nat.reduceAdd, Nat.reduceSub, bindG_none, addG_none, hgrpK_none, nestK_none, hgrpK_guarded, Option.map_none, beq_self_eq_true, bne_self_eq_false, Option.map_some, if_true, if_false, List.getD_cons_zero, List.getD_cons_succ, List.length_cons, List.length_nil, List.mem_cons, List.not_mem_nil, List.mem_append, List.nil_append, List.cons_append, List.append_nil, List.take_succ_cons, List.take_zero, List.drop_succ_cons, List.drop_zero, List.set_cons_zero, List.set_cons_succ, List.map_cons, List.map_nil, implies_true, forall_const, ne_eq, d1, d2, d3, d4, hpos, Int.toNat_zero, Int.le_refl, Int.reduceToNat]
    refine hx_know_code fun hw hl1 hn1 => ?_
    refine hx_loop (S := RnuS) (fun t => [(0, .str s), (4, .int .i64 t.n), (5, .int .i64 t.j)]) (fun _ => σ)
      (fun t => t.j ≤ s.size ∧ rNumF t.n (s.data.toList.drop t.j) = rNumF 0 s.data.toList ∧ t.n < 10 ^ t.j) (fun t => s.size - t.j) ⟨0, 0⟩ ⟨Nat.zero_le _, rfl, by simp⟩ (fun _ _ h => by rw [hr] at h; cases h) ?_ ?_
    · exact Drop.all hw hn1 (loop _ rfl rfl rfl)
    rintro ⟨j, n⟩ ⟨j1, j4, j5⟩
    simp only at j1 j4 j5 ⊢
    have hp10 : 10 ^ j ≤ 10 ^ 10 := Nat.pow_le_pow_right (by omega) (by omega)
    have hp11 : 10 ^ (j + 1) = 10 * 10 ^ j := by rw [Nat.pow_succ]; omega
    by_cases hj : j < s.size
    · have hjd : decide (((j : Nat) : Int) < (s.size : Int)) = true := by simp [hj]
      have hjp : ((j : Nat) : Int) < (s.size : Int) := by omega
      have hb : ((s.data.getD j 0).toNat : Int) = (((s.data.toList[j]'(by simpa using hj)).toNat : Nat) : Int) := byte_at s j hj
      have hd := drop_cons s j hj
      rw [hd] at j4
      simp only [rNumF] at j4
      generalize s.data.toList[j]'(by simpa using hj) = b at *
      have hwr : IntKind.i64.wrap ((j : Int) + 1) = ((j + 1 : Nat) : Int) := by rw [IntWalk.i64_in _ (by omega)]; rfl
      refine hgo_sound 60 ?_
      simp -implicitDefEqProofs (maxSteps := 1000000) only [simpS, ↓condJ_true, ↓condJ_false, ↓reduceIte, Nat.reduceEqDiff, Nat.reduceLT, Nat.reduceLeDiff, reduceCtorEq, Nat.reduceAdd, Nat.reduceSub, bindG_none, addG_none, hgrpK_none, nestK_none, hgrpK_guarded, Option.map_none, beq_self_eq_true, bne_self_eq_false, Option.map_some, if_true, if_false, List.getD_cons_zero, List.getD_cons_succ, List.length_cons, List.length_nil, List.mem_cons, List.not_mem_nil, List.mem_append, List.nil_append, List.cons_append, List.append_nil, List.take_succ_cons, List.take_zero, List.drop_succ_cons, List.drop_zero, List.set_cons_zero, List.set_cons_succ, List.map_cons, List.map_nil, implies_true, forall_const, ne_eq, hjd, hjp, Int.toNat_natCast, Int.natCast_nonneg, hb]
      refine hx_call (f := .fn 71) rfl (by rw [hP]; exact hcallD_func (rFigure_calls b _)) ?_
      rintro _ σ2 ⟨rfl, h⟩
      subst σ2
      cases hbf : isFig b
      · rw [hbf] at j4
        have hno : rNumD s = none := by rw [hgo, ← j4]; rfl
        simp only [numV, numB, hno]
        refine hgo_sound 60 ?_
        simp -implicitDefEqProofs (maxSteps := 1000000) only [simpS, ↓condJ_true, ↓condJ_false, ↓reduceIte, Nat.reduceEqDiff, Nat.reduceLT, Nat.reduceLeDiff, reduceCtorEq, Nat.reduceAdd, Nat.reduceSub, bindG_none, addG_none, hgrpK_none, nestK_none, hgrpK_guarded, Option.map_none, beq_self_eq_true, bne_self_eq_false, Option.map_some, if_true, if_false, List.getD_cons_zero, List.getD_cons_succ, List.length_cons, List.length_nil, List.mem_cons, List.not_mem_nil, List.mem_append, List.nil_append, List.cons_append, List.append_nil, List.take_succ_cons, List.take_zero, List.drop_succ_cons, List.drop_zero, List.set_cons_zero, List.set_cons_succ, List.map_cons, List.map_nil, implies_true, forall_const, ne_eq]
        exact fpost_pure (σ0 := σ) (.inr rfl) (by rw [hnx]; exact Nat.le_refl _) hwf (Sub.refl σ) rfl trivial ⟨trivial, trivial, trivial⟩ ⟨rfl, rfl⟩
      · rw [hbf, if_pos rfl] at j4
        obtain ⟨f1, f2, f3⟩ := fig_back hbf
        have hbw : IntKind.i64.wrap (b.toNat : Int) = (b.toNat : Int) := IntWalk.i64_in _ (by omega)
        have hw1 : IntKind.i64.wrap (10 * (n : Int)) = 10 * (n : Int) := IntWalk.i64_in _ (by omega)
        have hw2 : IntKind.i64.wrap (10 * (n : Int) + (b.toNat : Int)) = 10 * (n : Int) + (b.toNat : Int) := IntWalk.i64_in _ (by omega)
        have hw3 : IntKind.i64.wrap (10 * (n : Int) + (b.toNat : Int) - 48) = ((10 * n + (b.toNat - 48) : Nat) : Int) := by rw [IntWalk.i64_in _ (by omega)]; omega
        refine hgo_sound 60 ?_
        simp -implicitDefEqProofs (maxSteps := 1000000) only [simpS, ↓condJ_true, ↓condJ_false, ↓reduceIte, Nat.reduceEqDiff, Nat.reduceLT, Nat.reduceLeDiff, reduceCtorEq, Nat.reduceAdd, Nat.reduceSub, bindG_none, addG_none, hgrpK_none, nestK_none, hgrpK_guarded, Option.map_none, beq_self_eq_true, bne_self_eq_false, Option.map_some, if_true, if_false, List.getD_cons_zero, List.getD_cons_succ, List.length_cons, List.length_nil, List.mem_cons, List.not_mem_nil, List.mem_append, List.nil_append, List.cons_append, List.append_nil, List.take_succ_cons, List.take_zero, List.drop_succ_cons, List.drop_zero, List.set_cons_zero, List.set_cons_succ, List.map_cons, List.map_nil, implies_true, forall_const, ne_eq, hjp, Int.toNat_natCast, Int.natCast_nonneg, hb, hwr, hbw, hw1, hw2, hw3]
        intro hw4 hl2 hn2
        refine ⟨⟨j + 1, 10 * n + (b.toNat - 48)⟩, ⟨by simp only; omega, j4, by simp only; rw [hp11]; omega⟩, by simp only; omega, ?_⟩
        exact Drop.all hw4 hn2 ⟨⟨rfl, trivial⟩, ⟨rfl, trivial⟩, ⟨rfl, trivial⟩, trivial⟩
    · have hjd : decide (((j : Nat) : Int) < (s.size : Int)) = false := by simp [hj]
      have hd : s.data.toList.drop j = [] := List.drop_eq_nil_of_le (by omega)
      rw [hd] at j4
      simp only [rNumF] at j4
      rw [← j4] at hgo
      simp only at hgo
      by_cases hm : n > 2147483647
      · have hmd : decide ((n : Int) > 2147483647) = true := by simp; omega
        rw [if_pos hm] at hgo
        simp only [numV, numB, hgo]
        refine hgo_sound 60 ?_
        simp -implicitDefEqProofs (maxSteps := 1000000) only [simpS, ↓condJ_true, ↓condJ_false, ↓reduceIte, Nat.reduceEqDiff, Nat.reduceLT, Nat.reduceLeDiff, reduceCtorEq, Nat.reduceAdd, Nat.reduceSub, bindG_none, addG_none, hgrpK_none, nestK_none, hgrpK_guarded, Option.map_none, beq_self_eq_true, bne_self_eq_false, Option.map_some, if_true, if_false, List.getD_cons_zero, List.getD_cons_succ, List.length_cons, List.length_nil, List.mem_cons, List.not_mem_nil, List.mem_append, List.nil_append, List.cons_append, List.append_nil, List.take_succ_cons, List.take_zero, List.drop_succ_cons, List.drop_zero, List.set_cons_zero, List.set_cons_succ, List.map_cons, List.map_nil, implies_true, forall_const, ne_eq, hjd, hmd]
        exact fpost_pure (σ0 := σ) (.inr rfl) (by rw [hnx]; exact Nat.le_refl _) hwf (Sub.refl σ) rfl trivial ⟨trivial, trivial, trivial⟩ ⟨rfl, rfl⟩
      · have hmd : decide ((n : Int) > 2147483647) = false := by simp; omega
        rw [if_neg hm] at hgo
        simp only [numV, numB, hgo]
        refine hgo_sound 60 ?_
        simp -implicitDefEqProofs (maxSteps := 1000000) only [simpS, ↓condJ_true, ↓condJ_false, ↓reduceIte, Nat.reduceEqDiff, Nat.reduceLT, Nat.reduceLeDiff, reduceCtorEq, Nat.reduceAdd, Nat.reduceSub, bindG_none, addG_none, hgrpK_none, nestK_none, hgrpK_guarded, Option.map_none, beq_self_eq_true, bne_self_eq_false, Option.map_some, if_true, if_false, List.getD_cons_zero, List.getD_cons_succ, List.length_cons, List.length_nil, List.mem_cons, List.not_mem_nil, List.mem_append, List.nil_append, List.cons_append, List.append_nil, List.take_succ_cons, List.take_zero, List.drop_succ_cons, List.drop_zero, List.set_cons_zero, List.set_cons_succ, List.map_cons, List.map_nil, implies_true, forall_const, ne_eq, hjd, hmd]
        exact fpost_pure (σ0 := σ) (.inr rfl) (by rw [hnx]; exact Nat.le_refl _) hwf (Sub.refl σ) rfl trivial ⟨trivial, trivial, trivial⟩ ⟨rfl, rfl⟩

end Go.Hl
set_option linter.unusedSectionVars false
set_option linter.unusedVariables false
namespace Go.Hl
open Go

def IterAt (P : Program) (f : Nat) (A : D → List D) {X : Type} (enc : X → List D) (xs : List X) (gl : Nat → Option (List D)) : Prop :=
  ∀ (tk : Tk X) (c : tk.C) (y : D), (tk.T c).glob = gl → tk.oks c xs → tk.Takes P enc y → HCalls P f (A y) (tk.T c) fun _ σ' => σ' = tk.T (tk.run c xs).1
theorem Iter.at {P : Program} {f : Nat} {A : D → List D} {X : Type} {enc : X → List D} {xs : List X} (h : Iter P f A enc xs) (gl : Nat → Option (List D)) : IterAt P f A enc xs gl := fun tk c y _ => h tk c y

section
variable {M : Md} {base : HPost} {k : List It} {env : Env} {σ : St}
theorem hx_range_foldA {f : X} {ps : List Nat} {asg body : HC} {fn : Nat} {caps : List D} {T C : Type} {enc : T → List D} {xs : List T} (S : C → St) (ok : C → T → Prop) (step : C → T → C × Option HC) (c0 : C)
    (hf : evX σ env f = .func fn caps) (hbody : hasBody M.P fn = true) (hin : ∀ id l, M.r = some (id, l) → ∃ nt e p a b st, σ.obj id = some (.loop nt e p a b st))
    (it : IterAt M.P fn (fun y => y :: caps) enc xs σ.glob) (hS : S c0 = σ) (hnext : ∀ c, (S c).next = σ.next) (hglob : ∀ c c', (S c).glob = (S c').glob) (hwf : ∀ c, (S c).wf) (he : ∀ t, (look env t).lt σ.next)
    (hok : rngOks ok step c0 xs) (hlen : ∀ x, (enc x).length = ps.length) (hps : ∀ p ∈ ps, p < M.nt)
    (round : ∀ c x τ, ok c x → σ.next + 1 ≤ τ.next → τ.wf → τ.glob = (S c).glob → Round M.P M.nt σ.next env ps asg body (enc x) (mix (σ.next + 1) ((S c).new (.loop M.nt env ps asg body .ready)) τ)
      fun d σ' => d = .bool (step c x).2.isNone ∧ σ' = mix (σ.next + 1) ((S (step c x).1).new (.loop M.nt env ps asg body (.ofJump (step c x).2))) τ)
    (hend : RangeEnd M base k env (S (rngRun step c0 xs).1).bump (rngRun step c0 xs).2) :
    HX M base (.code (.range f ps asg body) :: k) env σ := by
  refine hx_range hf hbody hin ?_
  let tk := rngTk S σ.next M.nt env ps asg body ok step hnext hglob hwf he
  have h0 : tk.T (c0, .ready) = σ.new (.loop M.nt env ps asg body .ready) := by
    show (S c0).new _ = _
    rw [hS]
  rw [← h0]
  refine (it tk (c0, .ready) _ (by rw [h0]; rfl) (rngTk_oks xs c0 hok) ⟨by simp only [D.lt]; exact Nat.lt_succ_self _, rfl, ?_⟩).mono ?_
  · rintro ⟨c, st⟩ x τ hlow ⟨rfl, hk⟩
    have hlow' : Low (σ.next + 1) ((S c).new (.loop M.nt env ps asg body .ready)) τ := hlow
    have hob : τ.obj σ.next = some (.loop M.nt env ps asg body .ready) := by
      rw [hlow'.obj _ (Nat.lt_succ_self _), ← hnext c, St.new_same]
    refine hcallD_yield hob (hlen x) hps fun M' h1 h2 h3 h4 h5 h6 => ?_
    have := round c x τ hk hlow'.next h5 hlow'.glob M' h1 h2 h3
    rw [hlow'.eq] at this
    exact this h4 h5 h6
  · rintro d σ' rfl
    rw [rngTk_run]
    refine ⟨.ofJump (rngRun step c0 xs).2, ?_, ?_⟩
    · show ((S _).new _).obj σ.next = _
      rw [← hnext (rngRun step c0 xs).1, St.new_same]
    · have hd : ∀ st, ((S (rngRun step c0 xs).1).new (.loop M.nt env ps asg body st)).del σ.next = (S (rngRun step c0 xs).1).bump := fun st => by
        refine St.ext' (fun j => ?_) rfl rfl
        simp only [St.obj_del, St.obj_new, St.obj_bump, hnext]
        split
        · rename_i e
          rw [(hwf _).top (by rw [hnext, e]; exact Nat.le_refl _)]
        · rfl
      cases hj : (rngRun step c0 xs).2 with
      | none => rw [hj] at hend; simp only [LSt.ofJump]; show HX M base k env (((S _).new _).del σ.next); rw [hd]; exact hend
      | some j => rw [hj] at hend; simp only [LSt.ofJump]; show HX M base (.code j :: k) env (((S _).new _).del σ.next); rw [hd]; exact hend
end

def tlC : HC → HC
  | .seq _ b => b
  | c => c

end Go.Hl
set_option linter.unusedSectionVars false
set_option linter.unusedVariables false
set_option linter.unusedSimpArgs false
set_option maxRecDepth 100000
namespace Go.Hl
open Go Go.Proofs Go.RowKit

def lenTo : List UInt8 → Nat
  | [] => 0
  | b :: r => if b = 10 then 0 else lenTo r + 1

theorem lenTo_le : ∀ l, lenTo l ≤ l.length
  | [] => Nat.le_refl _
  | b :: r => by
    have := lenTo_le r
    simp only [lenTo]
    split
    · omega
    · simp only [List.length_cons]; omega

theorem indexByte_lenTo : ∀ l : List UInt8, Lib.indexByte l 10 = if lenTo l < l.length then (lenTo l : Int) else -1
  | [] => by simp [Lib.indexByte, lenTo]
  | b :: r => by
    have ih := indexByte_lenTo r
    have hle := lenTo_le r
    by_cases hb : b = 10
    · subst hb
      simp [Lib.indexByte, lenTo]
    · have hb' : (b == 10) = false := by simpa using hb
      simp only [Lib.indexByte, lenTo, hb', if_neg hb, ih, List.length_cons, Bool.false_eq_true, if_false]
      by_cases h : lenTo r < r.length
      · rw [if_pos h, if_pos (show lenTo r + 1 < r.length + 1 by omega)]
        have h1 : ((lenTo r : Int) == -1) = false := by simp
        rw [h1]
        simp
      · rw [if_neg h, if_neg (show ¬ lenTo r + 1 < r.length + 1 by omega)]
        rfl

theorem indexByteString_calls (s : ByteArray) (b : UInt8) (σ : St) : HCalls Tryz.prog 81 [.str s, byD b] σ (fun d σ' => d = .int .i64 (Lib.indexByte s.data.toList b) ∧ σ' = σ) := by
  intro g w vs hr hl
  simp only [RL, R] at hl
  obtain ⟨_, _, rfl, rfl, _, _, rfl, rfl, rfl⟩ := hl
  show NextOk Tryz.prog _ ((callFunc 81 #[.string s, .int .u8 (b.toNat : Int)]).run Tryz.prog w)
  rw [run_callFunc_extern Tryz.func81 (by kernel_rfl) (by kernel_rfl) (by kernel_rfl) (e := Extern.BytealgIndexByte.indexByte) (by kernel_rfl), Lib.run_indexByteString]
  have hb : ((b.toNat : Int)).toNat.toUInt8 = b := by simp
  rw [hb]
  exact ⟨.int .i64 (Lib.indexByte s.data.toList b), g, σ, E.refl g w hr.gw, hr, rfl, rfl, rfl⟩

theorem lindexByte_calls (s : ByteArray) (b : UInt8) (σ : St) : HCalls Tryz.prog 69 [.str s, byD b] σ (fun d σ' => d = .int .i64 (Lib.indexByte s.data.toList b) ∧ σ' = σ) := by
  refine hcalls_body (fn := Tryz.f69) rfl c69 (by simp [h69]) (by simp [h69, Tryz.f69]) ?_
  intro M hP hr hnt hnx hwf hlt
  simp only [h69, argEnv]
  refine hgo_sound 60 ?_
  simp -implicitDefEqProofs (maxSteps := 1000000) only [simpS, ↓condJ_true, ↓condJ_false, ↓reduceIte, Nat.reduceEqDiff, Nat.reduceLT, Nat.reduceLeDiff, reduceCtorEq, Nat.reduceAdd, Nat.reduceSub, bindG_none, addG_none, hgrpK_none, nestK_none, hgrpK_guarded, Option.map_none, beq_self_eq_true, bne_self_eq_false, Option.map_some, if_true, if_false, List.getD_cons_zero, List.getD_cons_succ, List.length_cons, List.length_nil, List.mem_cons, List.not_mem_nil, List.mem_append, List.nil_append, List.cons_append, List.append_nil, List.take_succ_cons, List.take_zero, List.drop_succ_cons, List.drop_zero, List.set_cons_zero, List.set_cons_succ, List.map_cons, List.map_nil, implies_true, forall_const, ne_eq]
  refine hx_call (f := .fn 81) rfl (by rw [hP]; exact hcallD_func (indexByteString_calls s b _)) ?_
  rintro _ σ2 ⟨rfl, h⟩
  subst σ2
  refine hgo_sound 60 ?_
  simp -implicitDefEqProofs (maxSteps := 1000000) only [simpS, ↓condJ_true, ↓condJ_false, ↓reduceIte, Nat.reduceEqDiff, Nat.reduceLT, Nat.reduceLeDiff, reduceCtorEq, Nat.reduceAdd, Nat.reduceSub, bindG_none, addG_none, hgrpK_none, nestK_none, hgrpK_guarded, Option.map_none, beq_self_eq_true, bne_self_eq_false, Option.map_some, if_true, if_false, List.getD_cons_zero, List.getD_cons_succ, List.length_cons, List.length_nil, List.mem_cons, List.not_mem_nil, List.mem_append, List.nil_append, List.cons_append, List.append_nil, List.take_succ_cons, List.take_zero, List.drop_succ_cons, List.drop_zero, List.set_cons_zero, List.set_cons_succ, List.map_cons, List.map_nil, implies_true, forall_const, ne_eq]
  exact fpost_pure (σ0 := σ) (.inr rfl) (by rw [hnx]; exact Nat.le_refl _) hwf (Sub.refl σ) rfl trivial trivial ⟨rfl, rfl⟩

theorem index1_calls (s : ByteArray) (b : UInt8) (σ : St) : HCalls Tryz.prog 82 [.str s, .str ⟨#[b]⟩] σ (fun d σ' => d = .int .i64 (Lib.indexByte s.data.toList b) ∧ σ' = σ) := by
  refine hcalls_body (fn := Tryz.f82) rfl c82 (by simp [h82]) (by simp [h82, Tryz.f82]) ?_
  intro M hP hr hnt hnx hwf hlt
  simp only [h82, argEnv]
  have h1 : ((⟨#[b]⟩ : ByteArray).size : Int) = 1 := rfl
  have h2 : (⟨#[b]⟩ : ByteArray).data.getD (Int.toNat 0) 0 = b := rfl
  have h3 : ((1 : Int) == 0) = false := rfl
  refine hgo_sound 60 ?_
  simp -implicitDefEqProofs (maxSteps := 1000000) only [simpS, ↓condJ_true, ↓condJ_false, ↓reduceIte, Nat.reduceEqDiff, Nat.reduceLT, Nat.reduceLeDiff, reduceCtorEq, Nat.reduceAdd, Nat.reduceSub, bindG_none, addG_none, hgrpK_none, nestK_none, hgrpK_guarded, Option.map_none, beq_self_eq_true, bne_self_eq_false, Option.map_some, if_true, if_false, List.getD_cons_zero, List.getD_cons_succ, List.length_cons, List.length_nil, List.mem_cons, List.not_mem_nil, List.mem_append, List.nil_append, List.cons_append, List.append_nil, List.take_succ_cons, List.take_zero, List.drop_succ_cons, List.drop_zero, List.set_cons_zero, List.set_cons_succ, List.map_cons, List.map_nil, implies_true, forall_const, ne_eq, h1, h2, h3, beq_self_eq_true, Int.le_refl, show (0 : Int) < 1 by decide]
  refine ⟨fun h => ?_, fun _ => ?_⟩
  · have h' : (⟨#[b]⟩ : ByteArray) = s := by simpa using h
    subst h'
    exact fpost_pure (σ0 := σ) (.inr rfl) (by rw [hnx]; exact Nat.le_refl _) hwf (Sub.refl σ) rfl trivial trivial ⟨by simp [tupD, look, Lib.indexByte], rfl⟩
  · skip
    refine hx_call (f := .fn 69) rfl (by rw [hP]; exact hcallD_func (lindexByte_calls s b _)) ?_
    rintro _ σ2 ⟨rfl, h⟩
    subst σ2
    refine hgo_sound 60 ?_
    simp -implicitDefEqProofs (maxSteps := 1000000) only [simpS, ↓condJ_true, ↓condJ_false, ↓reduceIte, Nat.reduceEqDiff, Nat.reduceLT, Nat.reduceLeDiff, reduceCtorEq, Nat.reduceAdd, Nat.reduceSub, bindG_none, addG_none, hgrpK_none, nestK_none, hgrpK_guarded, Option.map_none, beq_self_eq_true, bne_self_eq_false, Option.map_some, if_true, if_false, List.getD_cons_zero, List.getD_cons_succ, List.length_cons, List.length_nil, List.mem_cons, List.not_mem_nil, List.mem_append, List.nil_append, List.cons_append, List.append_nil, List.take_succ_cons, List.take_zero, List.drop_succ_cons, List.drop_zero, List.set_cons_zero, List.set_cons_succ, List.map_cons, List.map_nil, implies_true, forall_const, ne_eq]
    exact fpost_pure (σ0 := σ) (.inr rfl) (by rw [hnx]; exact Nat.le_refl _) hwf (Sub.refl σ) rfl trivial trivial ⟨rfl, rfl⟩

def cutL (t : ByteArray) : List D :=
  let n := lenTo t.data.toList
  if n < t.size then [.str (t.extract 0 n), .str (t.extract (n + 1) t.size), .bool true] else [.str t, .str ⟨#[]⟩, .bool false]

theorem lcut_calls (t : ByteArray) (ht : t.size ≤ 1099511627776) (σ : St) : HCalls Tryz.prog 74 [.str t, .str ⟨#[10]⟩] σ (fun d σ' => d = .tuple (cutL t) ∧ σ' = σ) := by
  refine hcalls_body (fn := Tryz.f74) rfl c74 (by simp [h74]) (by simp [h74, Tryz.f74]) ?_
  intro M hP hr hnt hnx hwf hlt
  simp only [h74, argEnv]
  have hnt' : M.nt = 23 := hnt
  have h1 : ((⟨#[10]⟩ : ByteArray).size : Int) = 1 := rfl
  have hlen : t.data.toList.length = t.size := by simp
  refine hgo_sound 60 ?_
  simp -implicitDefEqProofs (maxSteps := 1000000) only [simpS, ↓condJ_true, ↓condJ_false, ↓reduceIte, Nat.reduceEqDiff, Nat.reduceLT, Nat.reduceLeDiff, reduceCtorEq, Nat.reduceAdd, Nat.reduceSub, bindG_none, addG_none, hgrpK_none, nestK_none, hgrpK_guarded, Option.map_none, beq_self_eq_true, bne_self_eq_false, Option.map_some, if_true, if_false, List.getD_cons_zero, List.getD_cons_succ, List.length_cons, List.length_nil, List.mem_cons, List.not_mem_nil, List.mem_append, List.nil_append, List.cons_append, List.append_nil, List.take_succ_cons, List.take_zero, List.drop_succ_cons, List.drop_zero, List.set_cons_zero, List.set_cons_succ, List.map_cons, List.map_nil, implies_true, forall_const, ne_eq]
  refine hx_call (f := .fn 82) rfl (by rw [hP]; exact hcallD_func (index1_calls t 10 _)) ?_
  rintro _ σ2 ⟨rfl, h⟩
  subst σ2
  rw [indexByte_lenTo, hlen]
  unfold cutL
  by_cases h : lenTo t.data.toList < t.size
  · simp only [if_pos h]
    have hd : decide ((lenTo t.data.toList : Int) ≥ 0) = true := by simp
    have hw : IntKind.i64.wrap ((lenTo t.data.toList : Int) + 1) = ((lenTo t.data.toList + 1 : Nat) : Int) := by rw [IntWalk.i64_in _ (by omega)]; rfl
    refine hgo_sound 12 ?_
    simp -implicitDefEqProofs (maxSteps := 1000000) only [simpS, ↓condJ_true, ↓condJ_false, ↓reduceIte, Nat.reduceEqDiff, Nat.reduceLT, Nat.reduceLeDiff, reduceCtorEq, Nat.reduceAdd, Nat.reduceSub, bindG_none, addG_none, hgrpK_none, nestK_none, hgrpK_guarded, Option.map_none, beq_self_eq_true, bne_self_eq_false, Option.map_some, if_true, if_false, List.getD_cons_zero, List.getD_cons_succ, List.length_cons, List.length_nil, List.mem_cons, List.not_mem_nil, List.mem_append, List.nil_append, List.cons_append, List.append_nil, List.take_succ_cons, List.take_zero, List.drop_succ_cons, List.drop_zero, List.set_cons_zero, List.set_cons_succ, List.map_cons, List.map_nil, implies_true, forall_const, ne_eq, hd]
    refine hx_drawgo 1 ?_
    simp -implicitDefEqProofs (maxSteps := 3000000) only [drawS, List.map_cons, List.map_nil, List.getElem?_cons_zero, List.getElem?_cons_succ, List.getElem?_nil, simpS, ↓condJ_true, ↓condJ_false, ↓reduceIte, Nat.reduceEqDiff, Nat.reduceLT, Nat.reduceLeDiff, reduceCtorEq, Nat.reduceAdd, Nat.reduceSub, bindG_none, addG_none, hgrpK_none, nestK_none, hgrpK_guarded, Option.map_none, beq_self_eq_true, bne_self_eq_false, Option.map_some, if_true, if_false, List.getD_cons_zero, List.getD_cons_succ, List.length_cons, List.length_nil, List.mem_cons, List.not_mem_nil, List.mem_append, List.nil_append, List.cons_append, List.append_nil, List.take_succ_cons, List.take_zero, List.drop_succ_cons, List.drop_zero, List.set_cons_zero, List.set_cons_succ, List.map_cons, List.map_nil, implies_true, forall_const, ne_eq, hnt', h1, hw, Int.toNat_natCast]
    refine ⟨by omega, ?_⟩
    refine hgo_sound 60 ?_
    simp -implicitDefEqProofs (maxSteps := 1000000) only [simpS, ↓condJ_true, ↓condJ_false, ↓reduceIte, Nat.reduceEqDiff, Nat.reduceLT, Nat.reduceLeDiff, reduceCtorEq, Nat.reduceAdd, Nat.reduceSub, bindG_none, addG_none, hgrpK_none, nestK_none, hgrpK_guarded, Option.map_none, beq_self_eq_true, bne_self_eq_false, Option.map_some, if_true, if_false, List.getD_cons_zero, List.getD_cons_succ, List.length_cons, List.length_nil, List.mem_cons, List.not_mem_nil, List.mem_append, List.nil_append, List.cons_append, List.append_nil, List.take_succ_cons, List.take_zero, List.drop_succ_cons, List.drop_zero, List.set_cons_zero, List.set_cons_succ, List.map_cons, List.map_nil, implies_true, forall_const, ne_eq]
    exact fpost_pure (σ0 := σ) (.inr rfl) (by rw [hnx]; exact Nat.le_refl _) hwf (Sub.refl σ) rfl trivial ⟨trivial, trivial, trivial, trivial⟩ ⟨rfl, rfl⟩
  · simp only [if_neg h]
    have hd : decide ((-1 : Int) ≥ 0) = false := rfl
    refine hgo_sound 60 ?_
    simp -implicitDefEqProofs (maxSteps := 1000000) only [simpS, ↓condJ_true, ↓condJ_false, ↓reduceIte, Nat.reduceEqDiff, Nat.reduceLT, Nat.reduceLeDiff, reduceCtorEq, Nat.reduceAdd, Nat.reduceSub, bindG_none, addG_none, hgrpK_none, nestK_none, hgrpK_guarded, Option.map_none, beq_self_eq_true, bne_self_eq_false, Option.map_some, if_true, if_false, List.getD_cons_zero, List.getD_cons_succ, List.length_cons, List.length_nil, List.mem_cons, List.not_mem_nil, List.mem_append, List.nil_append, List.cons_append, List.append_nil, List.take_succ_cons, List.take_zero, List.drop_succ_cons, List.drop_zero, List.set_cons_zero, List.set_cons_succ, List.map_cons, List.map_nil, implies_true, forall_const, ne_eq, hd]
    exact fpost_pure (σ0 := σ) (.inr rfl) (by rw [hnx]; exact Nat.le_refl _) hwf (Sub.refl σ) rfl trivial ⟨trivial, trivial, trivial, trivial⟩ ⟨rfl, rfl⟩

theorem cut_calls (t : ByteArray) (ht : t.size ≤ 1099511627776) (σ : St) : HCalls Tryz.prog 61 [.str t, .str ⟨#[10]⟩] σ (fun d σ' => d = .tuple (cutL t) ∧ σ' = σ) := by
  refine hcalls_body (fn := Tryz.f61) rfl c61 (by simp [h61]) (by simp [h61, Tryz.f61]) ?_
  intro M hP hr hnt hnx hwf hlt
  simp only [h61, argEnv]
  refine hgo_sound 60 ?_
  simp -implicitDefEqProofs (maxSteps := 1000000) only [simpS, ↓condJ_true, ↓condJ_false, ↓reduceIte, Nat.reduceEqDiff, Nat.reduceLT, Nat.reduceLeDiff, reduceCtorEq, Nat.reduceAdd, Nat.reduceSub, bindG_none, addG_none, hgrpK_none, nestK_none, hgrpK_guarded, Option.map_none, beq_self_eq_true, bne_self_eq_false, Option.map_some, if_true, if_false, List.getD_cons_zero, List.getD_cons_succ, List.length_cons, List.length_nil, List.mem_cons, List.not_mem_nil, List.mem_append, List.nil_append, List.cons_append, List.append_nil, List.take_succ_cons, List.take_zero, List.drop_succ_cons, List.drop_zero, List.set_cons_zero, List.set_cons_succ, List.map_cons, List.map_nil, implies_true, forall_const, ne_eq]
  refine hx_call (f := .fn 74) rfl (by rw [hP]; exact hcallD_func (lcut_calls t ht _)) ?_
  rintro _ σ2 ⟨rfl, h⟩
  subst σ2
  unfold cutL
  by_cases h : lenTo t.data.toList < t.size
  · simp only [if_pos h]
    refine hgo_sound 60 ?_
    simp -implicitDefEqProofs (maxSteps := 1000000) only [simpS, ↓condJ_true, ↓condJ_false, ↓reduceIte, Nat.reduceEqDiff, Nat.reduceLT, Nat.reduceLeDiff, reduceCtorEq, Nat.reduceAdd, Nat.reduceSub, bindG_none, addG_none, hgrpK_none, nestK_none, hgrpK_guarded, Option.map_none, beq_self_eq_true, bne_self_eq_false, Option.map_some, if_true, if_false, List.getD_cons_zero, List.getD_cons_succ, List.length_cons, List.length_nil, List.mem_cons, List.not_mem_nil, List.mem_append, List.nil_append, List.cons_append, List.append_nil, List.take_succ_cons, List.take_zero, List.drop_succ_cons, List.drop_zero, List.set_cons_zero, List.set_cons_succ, List.map_cons, List.map_nil, implies_true, forall_const, ne_eq]
    exact fpost_pure (σ0 := σ) (.inr rfl) (by rw [hnx]; exact Nat.le_refl _) hwf (Sub.refl σ) rfl trivial ⟨trivial, trivial, trivial, trivial⟩ ⟨rfl, rfl⟩
  · simp only [if_neg h]
    refine hgo_sound 60 ?_
    simp -implicitDefEqProofs (maxSteps := 1000000) only [simpS, ↓condJ_true, ↓condJ_false, ↓reduceIte, Nat.reduceEqDiff, Nat.reduceLT, Nat.reduceLeDiff, reduceCtorEq, Nat.reduceAdd, Nat.reduceSub, bindG_none, addG_none, hgrpK_none, nestK_none, hgrpK_guarded, Option.map_none, beq_self_eq_true, bne_self_eq_false, Option.map_some, if_true, if_false, List.getD_cons_zero, List.getD_cons_succ, List.length_cons, List.length_nil, List.mem_cons, List.not_mem_nil, List.mem_append, List.nil_append, List.cons_append, List.append_nil, List.take_succ_cons, List.take_zero, List.drop_succ_cons, List.drop_zero, List.set_cons_zero, List.set_cons_succ, List.map_cons, List.map_nil, implies_true, forall_const, ne_eq]
    exact fpost_pure (σ0 := σ) (.inr rfl) (by rw [hnx]; exact Nat.le_refl _) hwf (Sub.refl σ) rfl trivial ⟨trivial, trivial, trivial, trivial⟩ ⟨rfl, rfl⟩

end Go.Hl
