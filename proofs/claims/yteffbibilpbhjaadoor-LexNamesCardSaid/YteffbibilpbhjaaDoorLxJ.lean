/-
  Layer 6: plain laws: tokens lie side by side; a real token's text is that token alone.
-/
import Derived.Test.YteffbibilpbhjaaDoorLxI
set_option linter.unusedSectionVars false
set_option linter.unusedVariables false
set_option linter.unusedSimpArgs false
set_option maxRecDepth 100000
namespace Go.Hl
open Go Go.Proofs Go.RowKit

def tiled : Nat → List Tk3 → Nat → Prop
  | a, [], e => a = e
  | a, x :: r, e => x.f = a ∧ a < x.t ∧ x.t ≤ e ∧ tiled x.t r e
theorem toks_tiled : ∀ (n : Nat) (l : List UInt8) (a : Nat), l.length ≤ n → tiled a (toks l a) (a + l.length)
  | 0, l, a, h => by
    have : l = [] := List.length_eq_zero_iff.1 (by omega)
    subst this
    rfl
  | n + 1, l, a, h => by
    by_cases hl : l = []
    · subst hl; rfl
    · have h1 := lexN_len l hl
      rw [toks_cons l a hl]
      have := toks_tiled n (l.drop (lexN l).2) (a + (lexN l).2) (by rw [List.length_drop]; omega)
      rw [List.length_drop, show a + (lexN l).2 + (l.length - (lexN l).2) = a + l.length by omega] at this
      exact ⟨rfl, by simp only; omega, by simp only; omega, this⟩
theorem tiledS (s : ByteArray) : tiled 0 (toks s.data.toList 0) s.size := by
  have := toks_tiled s.size s.data.toList 0 (by rw [len_list]; exact Nat.le_refl _)
  rwa [len_list, Nat.zero_add] at this

theorem join_toks (s : ByteArray) : ∀ (n a : Nat), s.size - a ≤ n → a ≤ s.size → joinT s (toks (s.data.toList.drop a) a) = s.extract a s.size
  | n, a, hn, ha => by
    by_cases h : a < s.size
    · have hne := drop_ne s a h
      have hln := lexN_len _ hne
      rw [List.length_drop, len_list] at hln
      rw [toks_cons _ _ hne, List.drop_drop]
      simp only [joinT, textT]
      rw [join_toks s (n - 1) _ (by omega) (by omega), ByteArray.extract_append_extract]
      congr 1 <;> omega
    · have : a = s.size := by omega
      subst this
      rw [drop_end s _ (Nat.le_refl _), toks_nil]
      simp only [joinT]
      apply ByteArray.ext
      simp
  termination_by n => n
  decreasing_by omega
theorem join_all (s : ByteArray) : joinT s (toks s.data.toList 0) = s := by
  have := join_toks s s.size 0 (by omega) (Nat.zero_le _)
  rw [List.drop_zero] at this
  rw [this]
  exact ByteArray.extract_zero_size

/-! ### Cases of a token -/

theorem lexN_blk {l : List UInt8} (hb : isBlk (l.headD 0) = true) : lexN l = (1, runTo isBlk l) := by unfold lexN; rw [if_pos hb]
theorem lexN_ln {l : List UInt8} (hb : isBlk (l.headD 0) = false) (h1 : ([47, 47] : List UInt8).isPrefixOf l = true) : lexN l = (2, lenTo l) := by unfold lexN; rw [hb, h1]; rfl
theorem lexN_cm {l : List UInt8} (hb : isBlk (l.headD 0) = false) (h1 : ([47, 47] : List UInt8).isPrefixOf l = false) (h2 : ([47, 42] : List UInt8).isPrefixOf l = true) : lexN l = (match ix2 (l.drop 2) with | some i => (2, i + 4) | none => (7, l.length)) := by unfold lexN; rw [hb, h1, h2]; rfl
theorem lexN_pr {l : List UInt8} (hb : isBlk (l.headD 0) = false) (h1 : ([47, 47] : List UInt8).isPrefixOf l = false) (h2 : ([47, 42] : List UInt8).isPrefixOf l = false) (h3 : prnd l = true) : lexN l = (3, 18) := by unfold lexN; rw [hb, h1, h2, h3]; rfl
theorem lexN_wd {l : List UInt8} (hb : isBlk (l.headD 0) = false) (h1 : ([47, 47] : List UInt8).isPrefixOf l = false) (h2 : ([47, 42] : List UInt8).isPrefixOf l = false) (h3 : prnd l = false) (h4 : insP (l.headD 0) = true) : lexN l = (wordK (bsL (l.take (runTo insP l))), runTo insP l) := by unfold lexN; rw [hb, h1, h2, h3, h4]; rfl
theorem lexN_am {l : List UInt8} (hb : isBlk (l.headD 0) = false) (h1 : ([47, 47] : List UInt8).isPrefixOf l = false) (h2 : ([47, 42] : List UInt8).isPrefixOf l = false) (h3 : prnd l = false) (h4 : insP (l.headD 0) = false) (h5 : ([38, 38] : List UInt8).isPrefixOf l = true) : lexN l = (6, 2) := by unfold lexN; rw [hb, h1, h2, h3, h4, h5]; rfl
theorem lexN_sg {l : List UInt8} (hb : isBlk (l.headD 0) = false) (h1 : ([47, 47] : List UInt8).isPrefixOf l = false) (h2 : ([47, 42] : List UInt8).isPrefixOf l = false) (h3 : prnd l = false) (h4 : insP (l.headD 0) = false) (h5 : ([38, 38] : List UInt8).isPrefixOf l = false) : lexN l = if sgl (l.headD 0) then (6, 1) else (7, 1) := by unfold lexN; rw [hb, h1, h2, h3, h4, h5]; rfl

theorem ins_not {b : UInt8} (h : insP b = true) : b.toNat ≠ 47 ∧ b.toNat ≠ 46 ∧ b.toNat ≠ 38 ∧ b.toNat ≠ 42 ∧ isBlk b = false := by
  unfold insP isLet isFig at h
  unfold isBlk
  simp only [Bool.or_eq_true, decide_eq_true_eq] at h
  simp only [Bool.or_eq_false_iff, decide_eq_false_iff_not]
  omega
theorem run_take_all (p : UInt8 → Bool) : ∀ (l : List UInt8), ∀ x ∈ l.take (runTo p l), p x = true
  | [], x, h => by simp at h
  | b :: r, x, h => by
    simp only [runTo] at h
    split at h
    · rename_i hb
      rw [List.take_succ_cons] at h
      rcases List.mem_cons.1 h with rfl | h
      · exact hb
      · exact run_take_all p r x h
    · simp at h
theorem run_all (p : UInt8 → Bool) : ∀ (l : List UInt8), (∀ x ∈ l, p x = true) → runTo p l = l.length
  | [], _ => rfl
  | b :: r, h => by
    simp only [runTo, h b (List.mem_cons_self ..), if_true, List.length_cons]
    rw [run_all p r fun x hx => h x (List.mem_cons_of_mem _ hx)]
theorem run_take (p : UInt8 → Bool) (l : List UInt8) : runTo p (l.take (runTo p l)) = runTo p l := by
  rw [run_all p _ (run_take_all p l), List.length_take, Nat.min_eq_left (runTo_le p l)]
theorem head_take (l : List UInt8) (n : Nat) (h : 1 ≤ n) : (l.take n).headD 0 = l.headD 0 := by
  cases l with
  | nil => simp
  | cons b r =>
    obtain ⟨m, rfl⟩ : ∃ m, n = m + 1 := ⟨n - 1, by omega⟩
    rfl
theorem pre2 (a b : UInt8) (l : List UInt8) (h : ([a, b] : List UInt8).isPrefixOf l = true) : l.headD 0 = a := by
  obtain ⟨t, rfl⟩ := List.isPrefixOf_iff_prefix.1 h
  rfl
theorem ne_pre2 {a b : UInt8} {l : List UInt8} (h : l.headD 0 ≠ a) : ([a, b] : List UInt8).isPrefixOf l = false := by
  cases hc : ([a, b] : List UInt8).isPrefixOf l with
  | false => rfl
  | true => exact absurd (pre2 a b l hc) h
theorem short_pre {q l : List UInt8} (h : l.length < q.length) : q.isPrefixOf l = false := by
  cases hc : q.isPrefixOf l with
  | false => rfl
  | true =>
    have := (List.isPrefixOf_iff_prefix.1 hc).length_le
    omega
theorem prnd_short {l : List UInt8} (h : l.length < 18) : prnd l = false := by
  unfold prnd
  rw [short_pre (by simpa using h)]
  rfl
theorem prnd_ins {l : List UInt8} (h : ∀ x ∈ l, insP x = true) : prnd l = false := by
  unfold prnd
  cases hc : prnL.isPrefixOf l with
  | false => rfl
  | true =>
    exfalso
    obtain ⟨t, rfl⟩ := List.isPrefixOf_iff_prefix.1 hc
    have := (ins_not (h 46 (List.mem_append_left _ (by decide)))).2.1
    exact this rfl
theorem ins_47 {b : UInt8} (h : insP b = true) : b ≠ 47 := fun e => (ins_not h).1 (by rw [e]; rfl)

theorem lex_prn : lexN prnL = (3, 18) := by kernel_rfl
theorem lex_amp : lexN [38, 38] = (6, 2) := by kernel_rfl

/-- A real token of a text, taken alone. -/
theorem lexN_take (l : List UInt8) (hl : l ≠ []) (h2 : 2 < (lexN l).1) (h7 : (lexN l).1 ≠ 7) : lexN (l.take (lexN l).2) = lexN l := by
  cases hb : isBlk (l.headD 0)
  case true => rw [lexN_blk hb] at h2; simp at h2
  cases h1 : ([47, 47] : List UInt8).isPrefixOf l
  case true => rw [lexN_ln hb h1] at h2; simp at h2
  cases h3 : ([47, 42] : List UInt8).isPrefixOf l
  case true =>
    rw [lexN_cm hb h1 h3] at h2 h7
    split at h2 <;> rename_i hx <;> rw [hx] at h7 <;> simp at h2 h7
  cases h4 : prnd l
  case true =>
    rw [lexN_pr hb h1 h3 h4]
    simp only [prnd, Bool.and_eq_true] at h4
    obtain ⟨t, rfl⟩ := List.isPrefixOf_iff_prefix.1 h4.1
    have : (prnL ++ t).take 18 = prnL := rfl
    rw [this]
    exact lex_prn
  cases h5 : insP (l.headD 0)
  case true =>
    have e := lexN_wd hb h1 h3 h4 h5
    rw [e]
    simp only
    have hn := runTo_pos insP l hl h5
    have hh := head_take l (runTo insP l) hn
    have hall := run_take_all insP l
    have hne : (l.take (runTo insP l)).headD 0 ≠ 47 := by rw [hh]; exact ins_47 h5
    rw [lexN_wd (by rw [hh]; exact hb) (ne_pre2 hne) (ne_pre2 hne) (prnd_ins hall) (by rw [hh]; exact h5), run_take, List.take_take, Nat.min_self]
  cases h6 : ([38, 38] : List UInt8).isPrefixOf l
  case true =>
    rw [lexN_am hb h1 h3 h4 h5 h6]
    obtain ⟨t, rfl⟩ := List.isPrefixOf_iff_prefix.1 h6
    have : (([38, 38] : List UInt8) ++ t).take 2 = [38, 38] := rfl
    rw [this]
    exact lex_amp
  rw [lexN_sg hb h1 h3 h4 h5 h6] at h7 ⊢
  cases hs : sgl (l.headD 0)
  · rw [hs] at h7; simp at h7
  · simp only [if_true]
    obtain ⟨c, r, rfl⟩ := List.exists_cons_of_ne_nil hl
    have : (c :: r).take 1 = [c] := rfl
    rw [this, lexN_sg (l := [c]) hb (short_pre (by simp)) (short_pre (by simp)) (prnd_short (by simp)) h5 (short_pre (by simp))]
    have hs' : sgl (([c] : List UInt8).headD 0) = true := hs
    rw [hs']
    rfl

/-- ... so its text has one token, of the same kind. -/
theorem toks_alone (l : List UInt8) (hl : l ≠ []) (h2 : 2 < (lexN l).1) (h7 : (lexN l).1 ≠ 7) : toks (l.take (lexN l).2) 0 = [⟨(lexN l).1, 0, (lexN l).2⟩] := by
  have h1 := lexN_len l hl
  have hne : l.take (lexN l).2 ≠ [] := by
    intro e
    have := congrArg List.length e
    rw [List.length_take, Nat.min_eq_left h1.2] at this
    simp at this
    omega
  rw [toks_cons _ _ hne, lexN_take l hl h2 h7, Nat.zero_add, List.drop_eq_nil_of_le (by rw [List.length_take]; omega), toks_nil]

theorem toks_mem : ∀ (n : Nat) (l : List UInt8) (a : Nat), l.length ≤ n → ∀ x ∈ toks l a, ∃ m, m < l.length ∧ x.f = a + m ∧ x.k = (lexN (l.drop m)).1 ∧ x.t = a + m + (lexN (l.drop m)).2
  | 0, l, a, h, x, hx => by
    have : l = [] := List.length_eq_zero_iff.1 (by omega)
    subst this
    simp [toks_nil] at hx
  | n + 1, l, a, h, x, hx => by
    by_cases hl : l = []
    · subst hl; simp [toks_nil] at hx
    · have h1 := lexN_len l hl
      rw [toks_cons l a hl] at hx
      rcases List.mem_cons.1 hx with rfl | hx
      · exact ⟨0, by omega, rfl, rfl, rfl⟩
      · obtain ⟨m, q1, q2, q3, q4⟩ := toks_mem n (l.drop (lexN l).2) (a + (lexN l).2) (by rw [List.length_drop]; omega) x hx
        rw [List.length_drop] at q1
        rw [List.drop_drop] at q3 q4
        exact ⟨(lexN l).2 + m, by omega, by omega, q3, by omega⟩

/-- The token of a real token's text. -/
theorem alone_S (s : ByteArray) (x : Tk3) (hx : x ∈ toks s.data.toList 0) (h2 : 2 < x.k) (h7 : x.k ≠ 7) : toks (textT s x).data.toList 0 = [⟨x.k, 0, x.t - x.f⟩] := by
  obtain ⟨m, q1, q2, q3, q4⟩ := toks_mem s.size s.data.toList 0 (by rw [len_list]; exact Nat.le_refl _) x hx
  rw [len_list] at q1
  rw [Nat.zero_add] at q2 q4
  have hne := drop_ne s m q1
  have := toks_alone _ hne (by rw [← q3]; exact h2) (by rw [← q3]; exact h7)
  have e : (textT s x).data.toList = (s.data.toList.drop m).take (lexN (s.data.toList.drop m)).2 := by
    unfold textT
    rw [q2, q4, ByteArray.data_extract]
    simp [List.extract]
  rw [e, this, ← q3]
  congr 2
  omega

end Go.Hl
