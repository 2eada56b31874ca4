/-
  Layer 1: plain laws on lines and places.
-/
import Derived.Test.YtldfojmjjidadaaTxE
set_option linter.unusedSectionVars false
set_option linter.unusedVariables false
set_option linter.unusedSimpArgs false
namespace Go.Hl
open Go

/-- Line and column of the n-th byte from here, as the reference counts. -/
def plA : Nat → List UInt8 → Nat × Nat → Nat × Nat
  | 0, _, p => p
  | _ + 1, [], p => p
  | n + 1, b :: r, (ln, c) => if b = 10 then plA n r (ln + 1, 0) else plA n r (ln, c + 1)

theorem getD_el {l : List Nat} {i d : Nat} (h : i < l.length) : l.getD i d = l[i] := by simp [List.getD, h]

structure IsAt (L : List Nat) (p at_ : Nat) : Prop where
  lt : p < L.length
  le : L.getD p 0 ≤ at_
  gt : ∀ q, p < q → q < L.length → at_ < L.getD q 0

theorem IsAt.unique {L : List Nat} {p q at_ : Nat} (h : IsAt L p at_) (k : IsAt L q at_) : p = q := by
  rcases Nat.lt_trichotomy p q with c | c | c
  · have := h.gt q c k.lt
    have := k.le
    omega
  · exact c
  · have := k.gt p c h.lt
    have := h.le
    omega

theorem begT_mem : ∀ (l : List UInt8) (i x : Nat), x ∈ begT i l → i < x ∧ x ≤ i + l.length
  | [], i, x, h => by simp [begT] at h
  | b :: r, i, x, h => by
    simp only [begT] at h
    simp only [List.length_cons]
    split at h
    · rcases List.mem_cons.1 h with rfl | h
      · omega
      · have := begT_mem r (i + 1) x h
        omega
    · have := begT_mem r (i + 1) x h
      omega

theorem plA_at : ∀ (l : List UInt8) (n i ln c p : Nat), n ≤ l.length → c ≤ i → IsAt ((i - c) :: begT i l) p (i + n) → plA n l (ln, c) = (ln + p, i + n - ((i - c) :: begT i l).getD p 0)
  | l, 0, i, ln, c, p, _, hc, h => by
    have hp : p = 0 := by
      rcases p with _ | p
      · rfl
      · have h1 := h.lt
        have h2 := h.le
        simp only [List.getD_cons_succ, List.length_cons] at h1 h2
        have hm : (begT i l).getD p 0 ∈ begT i l := by
          rw [getD_el (by omega)]
          exact List.getElem_mem _
        have := begT_mem l i _ hm
        omega
    subst hp
    simp only [plA, List.getD_cons_zero, Nat.add_zero]
    congr 1
    omega
  | [], n + 1, i, ln, c, p, hn, _, _ => by simp at hn
  | b :: r, n + 1, i, ln, c, p, hn, hc, h => by
    simp only [List.length_cons] at hn
    by_cases hb : b = 10
    · simp only [plA, begT, if_pos hb] at h ⊢
      rcases p with _ | p
      · have := h.gt 1 (by omega) (by simp)
        simp at this
      · have h' : IsAt ((i + 1 - 0) :: begT (i + 1) r) p (i + 1 + n) := by
          refine ⟨?_, ?_, fun q h1 h2 => ?_⟩
          · have := h.lt
            simp only [List.length_cons] at this ⊢
            omega
          · have := h.le
            simp only [List.getD_cons_succ] at this
            rw [Nat.sub_zero]
            omega
          · have := h.gt (q + 1) (by omega) (by simp only [List.length_cons] at h2 ⊢; omega)
            simp only [List.getD_cons_succ] at this
            rw [Nat.sub_zero]
            omega
        rw [plA_at r n (i + 1) (ln + 1) 0 p (by omega) (by omega) h']
        simp only [List.getD_cons_succ, Nat.sub_zero]
        congr 1 <;> omega
    · simp only [plA, begT, if_neg hb] at h ⊢
      have he : i - c = i + 1 - (c + 1) := by omega
      rw [he] at h ⊢
      rw [plA_at r n (i + 1) ln (c + 1) p (by omega) (by omega) (by rw [show i + 1 + n = i + (n + 1) by omega]; exact h)]
      congr 1
      rw [show i + 1 + n = i + (n + 1) by omega]

/-- Where a line begins tells where the next one does. -/
theorem next_beg (l : List UInt8) : ∀ (m a p : Nat), l.length - a ≤ m → a ≤ l.length → p < (a :: begT a (l.drop a)).length →
    let L := a :: begT a (l.drop a)
    L.getD p 0 + lenTo (l.drop (L.getD p 0)) ≤ l.length ∧ a ≤ L.getD p 0 ∧
    (p + 1 < L.length → L.getD (p + 1) 0 = L.getD p 0 + lenTo (l.drop (L.getD p 0)) + 1) ∧ (p + 1 = L.length → L.getD p 0 + lenTo (l.drop (L.getD p 0)) = l.length) := by
  intro m
  induction m with
  | zero =>
    intro a p hm ha hp
    have hd : l.drop a = [] := List.drop_eq_nil_of_le (by omega)
    rw [hd] at hp ⊢
    simp only [begT, List.length_cons, List.length_nil] at hp ⊢
    have : p = 0 := by omega
    subst this
    simp only [List.getD_cons_zero, hd, lenTo]
    omega
  | succ m ih =>
    intro a p hm ha hp
    have hle := lenTo_le (l.drop a)
    rw [List.length_drop] at hle
    simp only
    rw [begT_split (l.drop a) a, List.length_drop] at hp ⊢
    by_cases h : lenTo (l.drop a) < l.length - a
    · rw [if_pos h] at hp ⊢
      rw [List.drop_drop] at hp ⊢
      rw [show a + (lenTo (l.drop a) + 1) = a + lenTo (l.drop a) + 1 by omega] at hp ⊢
      rcases p with _ | p
      · simp only [List.getD_cons_zero, List.getD_cons_succ, List.length_cons]
        exact ⟨by omega, Nat.le_refl _, fun _ => by first | trivial | rfl, fun h => by omega⟩
      · have hi := ih (a + lenTo (l.drop a) + 1) p (by omega) (by omega) (by simpa using hp)
        simp only at hi
        obtain ⟨h1, h2, h3, h4⟩ := hi
        simp only [List.getD_cons_succ, List.length_cons] at h1 h2 h3 h4 ⊢
        refine ⟨h1, by omega, fun h => h3 (by omega), fun h => h4 (by omega)⟩
    · rw [if_neg h] at hp ⊢
      simp only [List.length_cons, List.length_nil] at hp ⊢
      have : p = 0 := by omega
      subst this
      simp only [List.getD_cons_zero]
      omega

theorem begs_eq (s : ByteArray) : begs s = 0 :: begT 0 (s.data.toList.drop 0) := rfl

theorem begs_next (s : ByteArray) (p : Nat) (hp : p < (begs s).length) : (begs s).getD p 0 + lenTo (s.data.toList.drop ((begs s).getD p 0)) ≤ s.size ∧
    (p + 1 < (begs s).length → (begs s).getD (p + 1) 0 = (begs s).getD p 0 + lenTo (s.data.toList.drop ((begs s).getD p 0)) + 1) ∧
    (p + 1 = (begs s).length → (begs s).getD p 0 + lenTo (s.data.toList.drop ((begs s).getD p 0)) = s.size) := by
  have hlen : s.data.toList.length = s.size := by simp
  have := next_beg s.data.toList s.size 0 p (by omega) (by omega) hp
  simp only at this
  obtain ⟨h1, _, h3, h4⟩ := this
  rw [hlen] at h1 h4
  exact ⟨h1, h3, h4⟩

theorem begs_mono (s : ByteArray) : ∀ (d p : Nat), p + d + 1 < (begs s).length → (begs s).getD p 0 < (begs s).getD (p + d + 1) 0
  | 0, p, h => by
    have := (begs_next s p (by omega)).2.1 h
    simp only [Nat.add_zero]
    omega
  | d + 1, p, h => by
    have h1 := begs_mono s d p (by omega)
    have h2 := (begs_next s (p + d + 1) (by omega)).2.1 (by omega)
    rw [show p + (d + 1) + 1 = p + d + 1 + 1 by omega]
    omega

theorem begs_strict (s : ByteArray) : StrictL (begs s) := by
  intro p q hp hq h
  have := begs_mono s (q - p - 1) p (by omega)
  rw [show p + (q - p - 1) + 1 = q by omega] at this
  rwa [getD_el hp, getD_el hq] at this

theorem begs_len (s : ByteArray) : (begs s).length ≤ s.size + 1 := by
  have := begT_length s.data.toList 0
  have hlen : s.data.toList.length = s.size := by simp
  simp only [begs, List.length_cons]
  omega
theorem begs_pos (s : ByteArray) : 0 < (begs s).length := by simp [begs]
theorem begs_le (s : ByteArray) (p : Nat) (hp : p < (begs s).length) : (begs s).getD p 0 ≤ s.size := by
  have := (begs_next s p hp).1
  omega

/-- What the search tells. -/
theorem bs_at {s : ByteArray} {z i : Nat} {f : Bool} (h : BsOk (begs s) (z : Int) i f) : (f = true → IsAt (begs s) i z) ∧ (f = false → 0 < i ∧ IsAt (begs s) (i - 1) z) := by
  obtain ⟨h1, h2, h3, h4⟩ := h
  have hs := begs_strict s
  constructor
  · intro hf
    obtain ⟨hi, he⟩ := h4.1 hf
    refine ⟨hi, ?_, fun q h5 h6 => ?_⟩
    · rw [getD_el hi]
      omega
    · rw [getD_el h6]
      have := hs i q hi h6 h5
      omega
  · intro hf
    have hp := begs_pos s
    have h0 : (begs s)[0] = 0 := rfl
    have hi : 0 < i := by
      rcases Nat.eq_zero_or_pos i with hz | hz
      · exfalso
        subst hz
        have := h3 0 (Nat.le_refl _) hp
        rw [h0] at this
        have : f = true := h4.2 ⟨hp, by rw [h0]; omega⟩
        rw [hf] at this
        cases this
      · exact hz
    refine ⟨hi, by omega, ?_, fun q h5 h6 => ?_⟩
    · have := h2 (i - 1) (by omega) (by omega)
      rw [getD_el (by omega)]
      omega
    · rw [getD_el h6]
      have hge := h3 q (by omega) h6
      rcases Nat.lt_or_ge z ((begs s)[q]) with hlt | hge2
      · exact hlt
      · exfalso
        have he : ((begs s)[q] : Int) = z := by omega
        rcases Nat.lt_or_ge i q with hiq | hiq
        · have hlt := hs i q (by omega) h6 hiq
          have := h3 i (Nat.le_refl _) (by omega)
          omega
        · have : q = i := by omega
          subst this
          have := h4.2 ⟨h6, he⟩
          rw [hf] at this
          cases this

/-- Line and column of a place. -/
def plP (s : ByteArray) (at_ : Nat) : Nat × Nat := plA at_ s.data.toList (0, 0)

theorem plP_at {s : ByteArray} {p at_ : Nat} (ha : at_ ≤ s.size) (h : IsAt (begs s) p at_) : plP s at_ = (p, at_ - (begs s).getD p 0) := by
  have hlen : s.data.toList.length = s.size := by simp
  have := plA_at s.data.toList at_ 0 0 0 p (by omega) (Nat.le_refl _) (by rw [Nat.zero_add]; exact h)
  unfold plP
  rw [this]
  simp only [Nat.zero_add]
  rfl

theorem isAt_ex (s : ByteArray) (at_ : Nat) : ∃ p, IsAt (begs s) p at_ := by
  have h0 : (begs s).getD 0 0 = 0 := rfl
  have key : ∀ n, n < (begs s).length → (∀ q, n < q → q < (begs s).length → at_ < (begs s).getD q 0) → ∃ p, IsAt (begs s) p at_ := by
    intro n
    induction n with
    | zero => exact fun h1 h2 => ⟨0, h1, by rw [h0]; omega, h2⟩
    | succ n ih =>
      intro h1 h2
      rcases Nat.lt_or_ge at_ ((begs s).getD (n + 1) 0) with hlt | hge
      · refine ih (by omega) fun q h3 h4 => ?_
        rcases Nat.lt_or_ge (n + 1) q with h | h
        · exact h2 q h h4
        · have : q = n + 1 := by omega
          rw [this]
          exact hlt
      · exact ⟨n + 1, h1, hge, h2⟩
  have hp := begs_pos s
  exact key ((begs s).length - 1) (by omega) fun q h1 h2 => by omega

/-- A line's length. -/
def lnN (s : ByteArray) (p : Nat) : Nat := lenTo (s.data.toList.drop ((begs s).getD p 0))

theorem lnA_size (s : ByteArray) (p : Nat) (hp : p < (begs s).length) : (lnA s ((begs s).getD p 0)).size = lnN s p := by
  have := (begs_next s p hp).1
  unfold lnA lnN
  rw [ByteArray.size_extract, Nat.min_eq_left this]
  omega

/-- A line and a column within it are a place's. -/
theorem place_of (s : ByteArray) (p c : Nat) (hp : p < (begs s).length) (hc : c ≤ lnN s p) : IsAt (begs s) p ((begs s).getD p 0 + c) ∧ (begs s).getD p 0 + c ≤ s.size := by
  obtain ⟨h1, h2, _⟩ := begs_next s p hp
  unfold lnN at hc
  refine ⟨⟨hp, by omega, fun q h3 h4 => ?_⟩, by omega⟩
  have h5 := h2 (by omega)
  rcases Nat.eq_or_lt_of_le (show p + 1 ≤ q by omega) with he | hlt
  · rw [← he]
    omega
  · have := begs_mono s (q - (p + 1) - 1) (p + 1) (by omega)
    rw [show p + 1 + (q - (p + 1) - 1) + 1 = q by omega] at this
    omega

theorem col_le {s : ByteArray} {p at_ : Nat} (ha : at_ ≤ s.size) (h : IsAt (begs s) p at_) : at_ - (begs s).getD p 0 ≤ lnN s p := by
  obtain ⟨h1, h2, h3⟩ := begs_next s p h.lt
  unfold lnN
  rcases Nat.lt_or_ge (p + 1) (begs s).length with hl | hl
  · have := h.gt (p + 1) (by omega) hl
    have := h2 hl
    omega
  · have := h3 (by have := h.lt; omega)
    omega

end Go.Hl
