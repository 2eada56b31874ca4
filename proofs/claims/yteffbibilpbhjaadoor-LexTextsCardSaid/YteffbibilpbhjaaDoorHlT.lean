/-
  Reading what is handed in, with how much there may be of it.
-/
import Derived.Test.YteffbibilpbhjaaDoorHlQ
import Derived.SizedLaws
set_option linter.unusedSectionVars false
set_option linter.unusedVariables false
namespace Go.Hl
open Go Go.RowKit

section
variable {H : Type} {enc : TypeId × Value → H} {P : Program} {W : World} {sp : Nat → Bool} {held : Bool}

theorem trod_struct_w {t : TypeId} {fs : Array Field} (hu : P.underlying t = some (.struct fs)) {fuel : Nat} {cs : List Value} {d : DataW H} {ps : List MemPlace} (h : DataW.trod enc P W 0 sp held (fuel + 1) t cs = some (d, ps)) :
    cs.length = P.cellsOf t ∧ ∀ (i : Nat) f, fs[i]? = some f → ∃ d' ps, DataW.trod enc P W 0 sp held fuel f.type ((cs.drop f.offset).take (P.cellsOf f.type)) = some (d', ps) ∧ ∀ n ∈ d'.weights P f.type, n ∈ d.weights P t := by
  unfold DataW.trod at h
  rw [hu] at h
  simp only at h
  split at h; rotate_left; · cases h
  rename_i hc
  refine ⟨hc, fun i f hf => ?_⟩
  obtain ⟨xs, hx, hd⟩ := Option.map_eq_some_iff.1 h
  obtain ⟨_, h2⟩ := opt_mapM hx
  obtain ⟨y, h0, hy⟩ := h2 i f (by simpa using hf)
  simp only [Prod.mk.injEq] at hd
  obtain ⟨rfl, _⟩ := hd
  refine ⟨y.1, y.2, hy, fun n hn => ?_⟩
  have hw : DataW.weights P t (.agg (xs.map (·.1)) : DataW H) = DataW.weightsEach P (fs.toList.map (·.type)) (xs.map (·.1)) := by simp only [DataW.weights, hu]
  rw [hw]
  exact DataW.weights_mem_each (j := i) (t := f.type) (by simp [hf]) (by simp [h0]) n hn

end

end Go.Hl
