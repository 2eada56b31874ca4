/-
  Reading what is handed in, with how much there may be of it.
-/
import Derived.Test.YtlaljehmcacmjaaHlQ
import Derived.SizedLaws
set_option linter.unusedSectionVars false
set_option linter.unusedVariables false
namespace Go.Hl
open Go Go.RowKit

section
variable {H : Type} {enc : TypeId × Value → H} {P : Program} {W : World} {sp : Nat → Bool} {held : Bool}

theorem weightsAll_mem {e : TypeId} {d : DataW H} : ∀ {ds : List (DataW H)}, d ∈ ds → ∀ n ∈ d.weights P e, n ∈ DataW.weightsAll P e ds
  | x :: ds, h, n, hn => by
    simp only [DataW.weightsAll, List.mem_append]
    rcases List.mem_cons.1 h with rfl | h
    · exact .inl hn
    · exact .inr (weightsAll_mem h n hn)

theorem trod_string_w {t : TypeId} (hu : P.underlying t = some .string) {fuel : Nat} {v : Value} {d : DataW H} {ps : List MemPlace} (h : DataW.trod enc P W 0 sp held fuel t [v] = some (d, ps)) :
    ∃ s, v = .string s ∧ s.size ∈ d.weights P t := by
  cases fuel with
  | zero => simp [DataW.trod] at h
  | succ fuel =>
    unfold DataW.trod at h
    rw [hu] at h
    cases v <;> simp at h
    rename_i s
    obtain ⟨_, rfl, _⟩ := h
    exact ⟨_, rfl, by simp [DataW.weights]⟩

theorem trod_slice_w {t e : TypeId} (hu : P.underlying t = some (.slice e)) {fuel : Nat} {v : Value} {d : DataW H} {ps : List MemPlace} (h : DataW.trod enc P W 0 (fun _ => true) held (fuel + 1) t [v] = some (d, ps)) :
    v = .slice none 0 0 ∨ ∃ a len cap, v = .slice (some a) len cap ∧ len ≤ cap ∧ cap ≤ maxLen ∧ cap * P.bytesOf e ∈ d.weights P t ∧
      ∀ i, i < cap → ∃ cs d' ps, W.cells? 0 (a.add (i * P.cellsOf e)) (P.cellsOf e) = some cs ∧ DataW.trod enc P W 0 (fun _ => true) held fuel e cs = some (d', ps) ∧ ∀ n ∈ d'.weights P e, n ∈ d.weights P t := by
  unfold DataW.trod at h
  rw [hu] at h
  cases v
  case slice A len cap =>
    cases A with
    | none =>
      cases len with
      | zero =>
        cases cap with
        | zero => exact .inl rfl
        | succ c => simp at h
      | succ n => simp at h
    | some a =>
      refine .inr ⟨a, len, cap, rfl, ?_⟩
      simp only at h
      split at h; rotate_left; · cases h
      rename_i hc
      obtain ⟨elems, he, h⟩ := Option.bind_eq_some_iff.1 h
      obtain ⟨rest, hr, hd⟩ := Option.map_eq_some_iff.1 h
      rw [if_pos trivial] at hr
      obtain ⟨l2, h2⟩ := opt_mapM he
      obtain ⟨l3, h3⟩ := opt_mapM hr
      simp only [Prod.mk.injEq] at hd
      obtain ⟨rfl, _⟩ := hd
      simp only [List.length_range] at l2 l3
      have hw : DataW.weights P t (.slice (elems.map (·.1)) (rest.map (·.1)) : DataW H) = (cap * P.bytesOf e) :: (DataW.weightsAll P e (elems.map (·.1)) ++ DataW.weightsAll P e (rest.map (·.1))) := by
        simp only [DataW.weights, hu, List.length_map, l2, l3]
        rw [show len + (cap - len) = cap by omega]
      rw [hw]
      refine ⟨hc.2.1, hc.2.2, by simp, fun i hi => ?_⟩
      obtain ⟨y, hm, hy⟩ : ∃ y : DataW H × List MemPlace, (y ∈ elems ∨ y ∈ rest) ∧ (W.cells? 0 (a.add (i * P.cellsOf e)) (P.cellsOf e)).bind (DataW.trod enc P W 0 (fun _ => true) held fuel e) = some y := by
        rcases Nat.lt_or_ge i len with hl | hl
        · obtain ⟨y, h0, hy⟩ := h2 i i (by simp [hl])
          exact ⟨y, .inl (List.mem_of_getElem? h0), hy⟩
        · obtain ⟨y, h0, hy⟩ := h3 (i - len) (i - len) (by rw [List.getElem?_range (by omega)])
          rw [show len + (i - len) = i by omega] at hy
          exact ⟨y, .inr (List.mem_of_getElem? h0), hy⟩
      obtain ⟨cs, hcs, hy⟩ := Option.bind_eq_some_iff.1 hy
      refine ⟨cs, y.1, y.2, hcs, hy, fun n hn => ?_⟩
      simp only [List.mem_cons, List.mem_append]
      rcases hm with hm | hm
      · exact .inr (.inl (weightsAll_mem (List.mem_map_of_mem hm) n hn))
      · exact .inr (.inr (weightsAll_mem (List.mem_map_of_mem hm) n hn))
  all_goals simp at h

theorem trod_struct_w {t : TypeId} {fs : Array Field} (hu : P.underlying t = some (.struct fs)) {fuel : Nat} {cs : List Value} {d : DataW H} {ps : List MemPlace} (h : DataW.trod enc P W 0 sp held (fuel + 1) t cs = some (d, ps)) :
    cs.length = P.cellsOf t ∧ ∀ (i : Nat) f, fs[i]? = some f → ∃ d' ps, DataW.trod enc P W 0 sp held fuel f.type ((cs.drop f.offset).take (P.cellsOf f.type)) = some (d', ps) ∧ ∀ n ∈ d'.weights P f.type, n ∈ d.weights P t := by
  unfold DataW.trod at h
  rw [hu] at h
  simp only at h
  split at h; rotate_left; · cases h
  rename_i hc
  refine ⟨hc, fun i f hf => ?_⟩
  obtain ⟨xs, hx, hd⟩ := Option.map_eq_some_iff.1 h
  obtain ⟨_, h2⟩ := opt_mapM hx
  obtain ⟨y, h0, hy⟩ := h2 i f (by simpa using hf)
  simp only [Prod.mk.injEq] at hd
  obtain ⟨rfl, _⟩ := hd
  refine ⟨y.1, y.2, hy, fun n hn => ?_⟩
  have hw : DataW.weights P t (.agg (xs.map (·.1)) : DataW H) = DataW.weightsEach P (fs.toList.map (·.type)) (xs.map (·.1)) := by simp only [DataW.weights, hu]
  rw [hw]
  exact DataW.weights_mem_each (j := i) (t := f.type) (by simp [hf]) (by simp [h0]) n hn

end

end Go.Hl
