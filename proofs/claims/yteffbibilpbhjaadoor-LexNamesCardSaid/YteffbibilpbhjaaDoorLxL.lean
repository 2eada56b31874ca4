/-
  Layer 6: plain laws: a name in place of a name.
-/
import Derived.Test.YteffbibilpbhjaaDoorLxJ
set_option linter.unusedSectionVars false
set_option linter.unusedVariables false
set_option linter.unusedSimpArgs false
set_option maxRecDepth 100000
namespace Go.Hl
open Go Go.Proofs Go.RowKit

theorem run_app (p : UInt8 → Bool) : ∀ (q x : List UInt8), runTo p (q ++ x) = q.length ↔ ((∀ c ∈ q, p c = true) ∧ (x = [] ∨ p (x.headD 0) = false))
  | [], x => by
    cases x with
    | nil => simp [runTo]
    | cons b r =>
      simp only [List.nil_append, runTo, List.length_nil, List.headD_cons]
      cases p b <;> simp
  | b :: q, x => by
    have ih := run_app p q x
    simp only [List.cons_append, runTo, List.length_cons, List.mem_cons]
    cases hb : p b
    · simp only [Bool.false_eq_true, if_false]
      constructor
      · intro h; omega
      · rintro ⟨h, _⟩
        have := h b (.inl rfl)
        rw [hb] at this
        cases this
    · simp only [if_true, Nat.add_right_cancel_iff]
      rw [ih]
      constructor
      · rintro ⟨h1, h2⟩
        refine ⟨fun c hc => ?_, h2⟩
        rcases hc with rfl | hc
        · exact hb
        · exact h1 c hc
      · rintro ⟨h1, h2⟩
        exact ⟨fun c hc => h1 c (.inr hc), h2⟩

structure HdOk (x y : List UInt8) : Prop where
  nx : x ≠ []
  ny : y ≠ []
  hd : x.headD 0 = y.headD 0 ∨ (insP (x.headD 0) = true ∧ insP (y.headD 0) = true)

theorem head_app {q x : List UInt8} (h : q ≠ []) : (q ++ x).headD 0 = q.headD 0 := by
  cases q with
  | nil => exact absurd rfl h
  | cons => rfl
theorem pre_app {a b : UInt8} (hb : insP b = false) {q x y : List UInt8} (hq : q ≠ []) (h : HdOk x y) : ([a, b] : List UInt8).isPrefixOf (q ++ y) = ([a, b] : List UInt8).isPrefixOf (q ++ x) := by
  obtain ⟨nx, ny, hd⟩ := h
  match q, hq with
  | [c], _ =>
    cases x with
    | nil => exact absurd rfl nx
    | cons x0 xs =>
      cases y with
      | nil => exact absurd rfl ny
      | cons y0 ys =>
        simp only [List.headD_cons] at hd
        simp only [List.cons_append, List.nil_append, List.isPrefixOf, Bool.and_true]
        rcases hd with rfl | ⟨h1, h2⟩
        · rfl
        · have e1 : (b == x0) = false := by
            simp only [beq_eq_false_iff_ne, ne_eq]
            rintro rfl
            rw [hb] at h1
            cases h1
          have e2 : (b == y0) = false := by
            simp only [beq_eq_false_iff_ne, ne_eq]
            rintro rfl
            rw [hb] at h2
            cases h2
          rw [e1, e2]
  | c :: d :: q', _ => simp [List.isPrefixOf]
theorem ix2_app : ∀ (u x y : List UInt8) (i : Nat), ix2 (u ++ x) = some i → i + 2 ≤ u.length → ix2 (u ++ y) = some i
  | [], x, y, i, _, hl => by simp at hl
  | [b], x, y, i, _, hl => by simp at hl
  | b :: c :: u, x, y, i, h, hl => by
    simp only [List.cons_append, ix2] at h ⊢
    have hp : ∀ z, ([42, 47] : List UInt8).isPrefixOf (b :: c :: (u ++ z)) = ((42 == b) && (47 == c)) := fun z => by simp [List.isPrefixOf]
    rw [hp] at h ⊢
    cases hc : ((42 : UInt8) == b && (47 : UInt8) == c)
    · rw [hc] at h
      simp only [Bool.false_eq_true, if_false] at h ⊢
      obtain ⟨j, hj, rfl⟩ := Option.map_eq_some_iff.1 h
      have := ix2_app (c :: u) x y j (by simpa only [List.cons_append, ix2] using hj) (by simp only [List.length_cons] at hl ⊢; omega)
      simp only [List.cons_append, ix2] at this
      rw [this]
      rfl
    · rw [hc] at h
      simpa using h

theorem prnd_app {q x : List UInt8} (h : prnd (q ++ x) = true) (hl : q.length = 18) (hx : x ≠ []) : q = prnL ∧ insP (x.headD 0) = false := by
  simp only [prnd, Bool.and_eq_true] at h
  have h1 := List.isPrefixOf_iff_prefix.1 h.1
  have e : q = prnL := by
    have h3 := List.prefix_iff_eq_take.1 h1
    have h4 : (q ++ x).take prnL.length = q := by
      have : prnL.length = q.length := by rw [hl]; rfl
      rw [this, List.take_left]
    rw [h4] at h3
    exact h3.symm
  refine ⟨e, ?_⟩
  have hd : (q ++ x).drop 18 = x := by rw [← hl, List.drop_left]
  rw [hd] at h
  cases x with
  | nil => exact absurd rfl hx
  | cons c r => simpa using h.2
theorem ins_dis {b c : UInt8} (h : insP b = true) (hc : insP c = false) : b ≠ c := fun e => by rw [e, hc] at h; cases h

/-- What stands behind a token may change, if it begins alike. -/
theorem lexN_swap (q x y : List UInt8) (hq : q ≠ []) (hh : HdOk x y) (hp : prnd (q ++ y) = true → prnd (q ++ x) = true) (h : (lexN (q ++ x)).2 = q.length) : lexN (q ++ y) = lexN (q ++ x) := by
  have hdx : (q ++ x).headD 0 = q.headD 0 := head_app hq
  have hdy : (q ++ y).headD 0 = q.headD 0 := head_app hq
  have stop : ∀ p : UInt8 → Bool, (∀ b, insP b = true → p b = false) → runTo p (q ++ x) = q.length → runTo p (q ++ y) = q.length := by
    intro p hpi hr
    obtain ⟨r1, r2⟩ := (run_app p q x).1 hr
    refine (run_app p q y).2 ⟨r1, .inr ?_⟩
    rcases hh.hd with e | ⟨e1, e2⟩
    · rw [← e]; exact r2.resolve_left hh.nx
    · exact hpi _ e2
  have same : ∀ p : UInt8 → Bool, (∀ b, insP b = true → p b = true) → runTo p (q ++ x) = q.length → runTo p (q ++ y) = q.length := by
    intro p hpi hr
    obtain ⟨r1, r2⟩ := (run_app p q x).1 hr
    have r3 := r2.resolve_left hh.nx
    refine (run_app p q y).2 ⟨r1, .inr ?_⟩
    rcases hh.hd with e | ⟨e1, e2⟩
    · rw [← e]; exact r3
    · rw [hpi _ e1] at r3; cases r3
  have b47 : insP 47 = false := by decide
  have b42 : insP 42 = false := by decide
  have b38 : insP 38 = false := by decide
  cases hb : isBlk ((q ++ x).headD 0)
  case true =>
    have hby : isBlk ((q ++ y).headD 0) = true := by rw [hdy, ← hdx]; exact hb
    rw [lexN_blk hb] at h ⊢
    rw [lexN_blk hby, stop isBlk (fun b hi => (ins_not hi).2.2.2.2) h]
    simp only at h
    rw [h]
  have hby : isBlk ((q ++ y).headD 0) = false := by rw [hdy, ← hdx]; exact hb
  cases h1 : ([47, 47] : List UInt8).isPrefixOf (q ++ x)
  case true =>
    have h1y := h1
    rw [← pre_app b47 hq hh] at h1y
    rw [lexN_ln hb h1] at h ⊢
    simp only at h
    rw [lexN_ln hby h1y, h, lenTo_run]
    rw [lenTo_run] at h
    rw [same notNl (fun b hi => by
      unfold notNl
      have : b ≠ 10 := fun e => by rw [e] at hi; revert hi; decide
      exact decide_eq_true this) h]
  have h1y := h1
  rw [← pre_app b47 hq hh] at h1y
  cases h3 : ([47, 42] : List UInt8).isPrefixOf (q ++ x)
  case true =>
    have h3y := h3
    rw [← pre_app b42 hq hh] at h3y
    rw [lexN_cm hb h1 h3] at h ⊢
    rw [lexN_cm hby h1y h3y]
    cases hi : ix2 ((q ++ x).drop 2) with
    | none =>
      rw [hi] at h
      simp only [List.length_append] at h
      have := List.length_pos_iff.2 hh.nx
      omega
    | some i =>
      rw [hi] at h
      simp only at h
      rw [List.drop_append_of_le_length (by omega)] at hi ⊢
      rw [ix2_app _ x y i hi (by rw [List.length_drop]; omega)]
  have h3y := h3
  rw [← pre_app b42 hq hh] at h3y
  cases h4 : prnd (q ++ x)
  case true =>
    rw [lexN_pr hb h1 h3 h4] at h ⊢
    obtain ⟨e, hx⟩ := prnd_app h4 h.symm hh.nx
    have hy : insP (y.headD 0) = false := by
      rcases hh.hd with e | ⟨e1, _⟩
      · rw [← e]; exact hx
      · rw [hx] at e1; cases e1
    refine lexN_pr hby h1y h3y ?_
    subst e
    cases y with
    | nil => exact absurd rfl hh.ny
    | cons c r =>
      have : insP c = false := hy
      simp [prnd, this, List.isPrefixOf]
  have h4y : prnd (q ++ y) = false := by
    cases hc : prnd (q ++ y) with
    | false => rfl
    | true =>
      rw [hp hc] at h4
      cases h4
  cases h5 : insP ((q ++ x).headD 0)
  case true =>
    have h5y : insP ((q ++ y).headD 0) = true := by rw [hdy, ← hdx]; exact h5
    rw [lexN_wd hb h1 h3 h4 h5] at h ⊢
    simp only at h
    rw [lexN_wd hby h1y h3y h4y h5y, same insP (fun b hi => hi) h, h, List.take_left, List.take_left]
  have h5y : insP ((q ++ y).headD 0) = false := by rw [hdy, ← hdx]; exact h5
  cases h6 : ([38, 38] : List UInt8).isPrefixOf (q ++ x)
  case true =>
    have h6y := h6
    rw [← pre_app b38 hq hh] at h6y
    rw [lexN_am hb h1 h3 h4 h5 h6, lexN_am hby h1y h3y h4y h5y h6y]
  have h6y := h6
  rw [← pre_app b38 hq hh] at h6y
  rw [lexN_sg hb h1 h3 h4 h5 h6, lexN_sg hby h1y h3y h4y h5y h6y, hdx, hdy]

theorem ix2_at : ∀ (u : List UInt8) (i : Nat), ix2 u = some i → u.getD (i + 1) 0 = 47
  | [], i, h => by cases h
  | b :: r, i, h => by
    simp only [ix2] at h
    split at h
    · rename_i hp
      injection h with h
      subst h
      obtain ⟨t, ht⟩ := List.isPrefixOf_iff_prefix.1 hp
      rw [← ht]
      rfl
    · obtain ⟨j, hj, rfl⟩ := Option.map_eq_some_iff.1 h
      have := ix2_at r j hj
      simpa using this

/-- Ahead of a name no letter stands. -/
theorem lexN_last (q x : List UInt8) (hq : q ≠ []) (hx : x ≠ []) (hi : insP (x.headD 0) = true) (h : (lexN (q ++ x)).2 = q.length) : insP (q.getLast hq) = false := by
  have hdx : (q ++ x).headD 0 = q.headD 0 := head_app hq
  have notb : ∀ {b : UInt8}, isBlk b = true → insP b = false := fun {b} hb => by
    cases hc : insP b with
    | false => rfl
    | true => rw [(ins_not hc).2.2.2.2] at hb; cases hb
  cases hb : isBlk ((q ++ x).headD 0)
  case true =>
    rw [lexN_blk hb] at h
    exact notb (((run_app isBlk q x).1 h).1 _ (List.getLast_mem hq))
  cases h1 : ([47, 47] : List UInt8).isPrefixOf (q ++ x)
  case true =>
    exfalso
    rw [lexN_ln hb h1, lenTo_run] at h
    have := ((run_app notNl q x).1 h).2.resolve_left hx
    unfold notNl at this
    have e : x.headD 0 = 10 := by simpa using this
    rw [e] at hi
    revert hi
    decide
  cases h3 : ([47, 42] : List UInt8).isPrefixOf (q ++ x)
  case true =>
    rw [lexN_cm hb h1 h3] at h
    cases hc : ix2 ((q ++ x).drop 2) with
    | none =>
      rw [hc] at h
      simp only [List.length_append] at h
      have := List.length_pos_iff.2 hx
      omega
    | some i =>
      rw [hc] at h
      simp only at h
      have h47 := ix2_at _ _ hc
      have e : q.getLast hq = 47 := by
        rw [List.getD_eq_getElem?_getD, List.getElem?_drop, List.getElem?_append_left (by omega), List.getElem?_eq_getElem (by omega)] at h47
        rw [List.getLast_eq_getElem]
        simp only [Option.getD_some] at h47
        rw [← h47]
        congr 1
        omega
      rw [e]
      decide
  cases h4 : prnd (q ++ x)
  case true =>
    exfalso
    rw [lexN_pr hb h1 h3 h4] at h
    have := (prnd_app h4 h.symm hx).2
    rw [this] at hi
    cases hi
  cases h5 : insP ((q ++ x).headD 0)
  case true =>
    exfalso
    rw [lexN_wd hb h1 h3 h4 h5] at h
    have := ((run_app insP q x).1 h).2.resolve_left hx
    rw [this] at hi
    cases hi
  cases h6 : ([38, 38] : List UInt8).isPrefixOf (q ++ x)
  case true =>
    rw [lexN_am hb h1 h3 h4 h5 h6] at h
    simp only at h
    match q, hq, h with
    | [c, d], _, _ =>
      simp only [List.cons_append, List.nil_append, List.isPrefixOf, Bool.and_true, Bool.and_eq_true, beq_iff_eq] at h6
      have : d = 38 := h6.2.symm
      subst this
      show insP 38 = false
      decide
  rw [lexN_sg hb h1 h3 h4 h5 h6] at h
  have hl1 : q.length = 1 := by
    split at h <;> exact h.symm
  match q, hq, hl1 with
  | [c], _, _ => exact h5

abbrev sysL : List UInt8 := [83, 121, 115, 116, 101, 109]
abbrev outL : List UInt8 := [111, 117, 116]
abbrev prlL : List UInt8 := [112, 114, 105, 110, 116, 108, 110]

structure NmOk (nm : List UInt8) : Prop where
  ne : nm ≠ []
  ins : ∀ c ∈ nm, insP c = true
  kd : wordK (bsL nm) = 4
  n1 : nm ≠ sysL
  n2 : nm ≠ outL
  n3 : nm ≠ prlL

/-- What follows a name. -/
def EndOk (post : List UInt8) : Prop := post = [] ∨ insP (post.headD 0) = false

theorem word_is {nm post e r : List UInt8} (hn : ∀ c ∈ nm, insP c = true) (hp : EndOk post) (he : ∀ c ∈ e, insP c = true) (hr : EndOk r) (h : nm ++ post = e ++ r) : nm = e := by
  have h1 := (run_app insP nm post).2 ⟨hn, hp⟩
  have h2 := (run_app insP e r).2 ⟨he, hr⟩
  rw [h] at h1
  have hl : nm.length = e.length := by omega
  have := congrArg (List.take nm.length) h
  rw [List.take_left, hl, List.take_left] at this
  exact this

theorem prnd_parts {l : List UInt8} (h : prnd l = true) : ∃ r, l = prnL ++ r ∧ EndOk r := by
  simp only [prnd, Bool.and_eq_true] at h
  obtain ⟨t, rfl⟩ := List.isPrefixOf_iff_prefix.1 h.1
  refine ⟨t, rfl, ?_⟩
  have : (prnL ++ t).drop 18 = t := rfl
  rw [this] at h
  cases t with
  | nil => exact .inl rfl
  | cons c r => exact .inr (by simpa using h.2)
theorem prnd_of {r : List UInt8} (h : EndOk r) : prnd (prnL ++ r) = true := by
  cases r with
  | nil => rfl
  | cons c r =>
    have : insP c = false := h.resolve_left (by simp)
    simp [prnd, this, List.isPrefixOf]

theorem prn_dots : ∀ i : Fin 18, insP (prnL[i.val]'i.isLt) = false → i.val = 6 ∨ i.val = 10 := by decide

/-- A new name makes no print. -/
theorem prnd_ren {u nm w post : List UInt8} (hu : u ≠ []) (hul : insP (u.getLast hu) = false) (hn : NmOk nm) (hp : EndOk post) (h : prnd (u ++ (nm ++ post)) = true) : prnd (u ++ (w ++ post)) = true := by
  obtain ⟨r, hr, hre⟩ := prnd_parts h
  rcases Nat.lt_or_ge u.length 18 with hlt | hge
  · exfalso
    have hpos := List.length_pos_iff.2 hu
    have hup : u = prnL.take u.length := by
      have := congrArg (List.take u.length) hr
      rw [List.take_left, List.take_append_of_le_length (by show u.length ≤ 18; omega)] at this
      exact this
    have hdr : nm ++ post = prnL.drop u.length ++ r := by
      have := congrArg (List.drop u.length) hr
      rw [List.drop_left, List.drop_append_of_le_length (by show u.length ≤ 18; omega)] at this
      exact this
    have hlast : u.getLast hu = prnL[u.length - 1]'(by show u.length - 1 < 18; omega) := by
      rw [List.getLast_eq_getElem]
      have : ∀ (v : List UInt8) (hv : v = prnL.take u.length) (i : Nat) (h1 : i < v.length) (h2 : i < 18), v[i] = prnL[i]'h2 := by
        rintro v rfl i h1 h2
        exact List.getElem_take
      exact this u hup _ _ _
    rw [hlast] at hul
    rcases prn_dots ⟨u.length - 1, by omega⟩ hul with e | e
    · simp only at e
      have e7 : u.length = 7 := by omega
      rw [e7] at hdr
      exact hn.n2 (word_is (e := outL) (r := [46, 112, 114, 105, 110, 116, 108, 110] ++ r) hn.ins hp (by decide) (.inr (by show insP 46 = false; decide)) hdr)
    · simp only at e
      have e11 : u.length = 11 := by omega
      rw [e11] at hdr
      exact hn.n3 (word_is (e := prlL) (r := r) hn.ins hp (by decide) hre hdr)
  · obtain ⟨v, rfl⟩ : ∃ v, u = prnL ++ v := by
      have : prnL <+: u := by
        refine List.prefix_of_prefix_length_le (l₃ := u ++ (nm ++ post)) ?_ (List.prefix_append _ _) hge
        rw [hr]
        exact List.prefix_append _ _
      obtain ⟨v, hv⟩ := this
      exact ⟨v, hv.symm⟩
    rw [List.append_assoc] at hr ⊢
    have hr2 : v ++ (nm ++ post) = r := List.append_cancel_left hr
    refine prnd_of ?_
    cases v with
    | nil =>
      exfalso
      rw [List.nil_append] at hr2
      rw [← hr2] at hre
      obtain ⟨c, t, hc⟩ := List.exists_cons_of_ne_nil hn.ne
      rcases hre with hre | hre
      · exact hn.ne (List.append_eq_nil_iff.1 hre).1
      · rw [head_app hn.ne] at hre
        have := hn.ins (nm.headD 0) (by rw [hc]; exact List.mem_cons_self ..)
        rw [hre] at this
        cases this
    | cons c v =>
      right
      rw [← hr2] at hre
      exact hre.resolve_left (by simp)

end Go.Hl
