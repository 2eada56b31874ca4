/-
  Plain laws: numbers.
-/
import Derived.Test.YtijcddlahidhhaaDoorSgB
import Derived.Lib.ItoaNum
import Derived.Lib.AtoiAll
import Derived.Lib.ItoaMem
set_option linter.unusedVariables false
set_option linter.unusedSimpArgs false
namespace Go.Hl
open Go

def rNumF (acc : Nat) : List UInt8 → Option Nat
  | [] => some acc
  | b :: bs => if isFig b then rNumF (10 * acc + (b.toNat - 48)) bs else none

def rNumD (s : ByteArray) : Option Nat :=
  let l := s.data.toList
  if l.length = 0 ∨ l.length > 10 ∨ (l.length > 1 ∧ l.headD 0 = 48) then none
  else match rNumF 0 l with
    | none => none
    | some n => if n > 2147483647 then none else some n

theorem rNumF_snoc (b : UInt8) : ∀ (l : List UInt8) (acc : Nat), rNumF acc (l ++ [b]) = match rNumF acc l with
    | none => none
    | some m => if isFig b then some (10 * m + (b.toNat - 48)) else none
  | [], acc => by simp [rNumF]
  | c :: l, acc => by
    simp only [List.cons_append, rNumF]
    split
    · exact rNumF_snoc b l _
    · rfl

theorem fig_of (d : Nat) (h : d < 10) : isFig (UInt8.ofNat (48 + d)) = true ∧ (UInt8.ofNat (48 + d)).toNat = 48 + d := by
  have : (UInt8.ofNat (48 + d)).toNat = 48 + d := by simp; omega
  refine ⟨?_, this⟩
  simp only [isFig, this]
  simp
  omega

theorem dec_num : ∀ u : Nat, rNumF 0 (Lib.decDigits u) = some u := by
  intro u
  induction u using Nat.strongRecOn with
  | _ u ih =>
    rw [Lib.decDigits]
    split
    · rename_i h
      obtain ⟨h1, h2⟩ := fig_of u h
      simp only [rNumF, h1, if_true, h2]
      simp
    · rename_i h
      obtain ⟨h1, h2⟩ := fig_of (u % 10) (by omega)
      rw [rNumF_snoc, ih (u / 10) (by omega)]
      simp only [h1, if_true, h2]
      congr 1
      omega

theorem dec_head : ∀ u : Nat, 1 ≤ u → ∃ b r, Lib.decDigits u = b :: r ∧ b ≠ 48 := by
  intro u
  induction u using Nat.strongRecOn with
  | _ u ih =>
    intro h1
    rw [Lib.decDigits]
    split
    · rename_i h
      refine ⟨_, _, rfl, fun e => ?_⟩
      have := congrArg UInt8.toNat e
      rw [(fig_of u h).2] at this
      simp at this
      omega
    · rename_i h
      obtain ⟨b, r, e, hb⟩ := ih (u / 10) (by omega) (by omega)
      rw [e]
      exact ⟨b, r ++ _, rfl, hb⟩

theorem dec_zero : Lib.decDigits 0 = [48] := by rw [Lib.decDigits]; rfl

theorem fig_back {b : UInt8} (h : isFig b = true) : UInt8.ofNat (48 + (b.toNat - 48)) = b ∧ b.toNat - 48 < 10 ∧ 48 ≤ b.toNat := by
  simp only [isFig, decide_eq_true_eq] at h
  refine ⟨?_, by omega, h.1⟩
  rw [show 48 + (b.toNat - 48) = b.toNat by omega]
  simp

theorem dec_unique : ∀ (k : Nat) (l : List UInt8), l.length = k → l ≠ [] → (l.length > 1 → l.headD 0 ≠ 48) → ∀ n, rNumF 0 l = some n → l = Lib.decDigits n := by
  intro k
  induction k with
  | zero => intro l hl hne; exact absurd (List.eq_nil_of_length_eq_zero hl) hne
  | succ k ih =>
    intro l hl hne hh n hn
    obtain ⟨l', b, rfl⟩ : ∃ l' b, l = l' ++ [b] := ⟨l.dropLast, l.getLast hne, (List.dropLast_concat_getLast hne).symm⟩
    rw [rNumF_snoc] at hn
    cases hm : rNumF 0 l' with
    | none => rw [hm] at hn; cases hn
    | some m =>
      rw [hm] at hn
      simp only at hn
      split at hn; rotate_left; · cases hn
      rename_i hb
      injection hn with hn
      obtain ⟨q1, q2, q3⟩ := fig_back hb
      by_cases hl0 : l' = []
      · subst hl0
        simp only [rNumF, Option.some.injEq] at hm
        subst hm
        subst hn
        rw [Lib.decDigits, dif_pos (by omega), List.nil_append]
        rw [show 48 + (10 * 0 + (b.toNat - 48)) = 48 + (b.toNat - 48) by omega, q1]
      · have hlen : l'.length = k := by simpa using hl
        have hpos : 0 < l'.length := List.length_pos_iff.2 hl0
        have hhead : (l' ++ [b]).headD 0 = l'.headD 0 := by
          cases l' with
          | nil => exact absurd rfl hl0
          | cons c r => rfl
        have h48 : l'.headD 0 ≠ 48 := by
          rw [← hhead]
          exact hh (by simp; omega)
        have e := ih l' hlen hl0 (fun _ => h48) m hm
        have hm1 : 1 ≤ m := by
          rcases Nat.eq_zero_or_pos m with h0 | h0
          · subst h0
            rw [dec_zero] at e
            rw [e] at h48
            exact absurd rfl h48
          · exact h0
        rw [Lib.decDigits, dif_neg (by omega), show n / 10 = m by omega, show n % 10 = b.toNat - 48 by omega, q1, ← e]

theorem num_mono : ∀ (l : List UInt8) (acc n : Nat), rNumF acc l = some n → acc ≤ n
  | [], acc, n, h => by simp only [rNumF, Option.some.injEq] at h; omega
  | b :: l, acc, n, h => by
    simp only [rNumF] at h
    split at h; rotate_left; · cases h
    have := num_mono l _ n h
    omega

theorem num_parse : ∀ (l : List UInt8) (acc n : Nat), rNumF acc l = some n → n ≤ 2147483647 → Lib.parseUint10 acc l = .ok n
  | [], acc, n, h, _ => by simp only [rNumF, Option.some.injEq] at h; rw [h]; rfl
  | b :: l, acc, n, h, hn => by
    simp only [rNumF] at h
    split at h; rotate_left; · cases h
    rename_i hb
    have h1 := num_mono l _ n h
    obtain ⟨q1, q2, q3⟩ := fig_back hb
    simp only [Lib.parseUint10]
    rw [if_pos ⟨by omega, by omega⟩, if_neg (by omega), if_neg (by omega), show acc * 10 + (b.toNat - 48) = 10 * acc + (b.toNat - 48) by omega]
    exact num_parse l _ n h hn

theorem num_is {s : ByteArray} {n : Nat} (h : rNumD s = some n) : Lib.atoiAll s.data.toList = .ok (n : Int) ∧ s.data.toList.length ≤ 10 ∧ n ≤ 2147483647 ∧ Lib.itoa (n : Int) = s.data.toList := by
  unfold rNumD at h
  simp only at h
  generalize s.data.toList = l at *
  split at h; · cases h
  rename_i hc
  cases hm : rNumF 0 l with
  | none => rw [hm] at h; cases h
  | some m =>
    rw [hm] at h
    simp only at h
    split at h; · cases h
    injection h with h
    subst h
    have hne : l ≠ [] := fun e => hc (.inl (by rw [e]; rfl))
    have hh : l.length > 1 → l.headD 0 ≠ 48 := fun h1 h2 => hc (.inr (.inr ⟨h1, h2⟩))
    have e := dec_unique l.length l rfl hne hh m hm
    refine ⟨?_, by omega, by omega, by rw [Lib.itoa_nonneg, ← e]⟩
    cases l with
    | nil => exact absurd rfl hne
    | cons b r =>
      have hp := num_parse (b :: r) 0 m hm (by omega)
      have hb : isFig b = true := by
        simp only [rNumF] at hm
        split at hm
        · assumption
        · cases hm
      obtain ⟨q1, q2, q3⟩ := fig_back hb
      have hm2 : Lib.parseMag (b :: r) = .ok m := by unfold Lib.parseMag; rw [if_neg (by simp)]; exact hp
      simp only [Lib.atoiAll]
      rw [if_neg (by omega), hm2]
      simp only
      rw [if_neg (by omega), if_neg (by omega), if_neg (by omega)]

theorem is_num {s : ByteArray} {v : Int} (h0 : 0 ≤ v) (h1 : v ≤ 2147483647) (h10 : s.data.toList.length ≤ 10) (he : Lib.itoa v = s.data.toList) : rNumD s = some v.toNat := by
  obtain ⟨u, rfl⟩ : ∃ u : Nat, v = u := ⟨v.toNat, by omega⟩
  rw [Lib.itoa_nonneg] at he
  unfold rNumD
  simp only
  rw [← he] at h10 ⊢
  have hn := dec_num u
  have hne : (Lib.decDigits u).length ≠ 0 := by
    intro e
    rw [List.eq_nil_of_length_eq_zero e] at hn
    rw [Lib.decDigits] at e
    split at e <;> simp at e
  rw [if_neg ?_, hn]
  · simp only
    rw [if_neg (by omega)]
    simp
  · rintro (h | h | ⟨h, h'⟩)
    · exact hne h
    · omega
    · rcases Nat.eq_zero_or_pos u with h3 | h3
      · subst h3
        rw [dec_zero] at h
        simp at h
      · obtain ⟨b, r, e, hb⟩ := dec_head u h3
        rw [e] at h'
        exact hb h'

end Go.Hl
