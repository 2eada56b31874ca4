/-
  Contracts that were proved elsewhere, as contracts of this layer.
-/
import Derived.Test.YtijcddlahidhhaaDoorHlQ
import Derived.Below
import Derived.Lib.ConvBytes
set_option linter.unusedVariables false
set_option linter.unusedSimpArgs false
namespace Go.Hl
open Go Go.RowKit

theorem hcalls_plain {P : Program} {f : Nat} {args : List D} {σ : St} {Q : D → St → Prop} (hb : hasBody P f = true)
    (h : ∀ g w vs, Rel P g σ w → RL g w args vs → Calls P f vs.toArray w fun e w' => ∃ v d, e = .returned v ∧ E g w g w' ∧ Rel P g σ w' ∧ R g w' d v ∧ Q d σ) : HCalls P f args σ Q := by
  intro g w vs hr hl
  rw [callFunc_has hb]
  refine CallsIn.mono (callsIn_wide.2 (h g w vs hr hl)) ?_
  rintro e w' ⟨v, d, rfl, hE, hR, hd, hq⟩
  exact ⟨d, g, σ, hE, hR, hd, hq⟩

theorem below_ER {P : Program} {g : G} {σ : St} {w w' : World} (hr : Rel P g σ w) (h : Below w.heap.size w w') : E g w g w' ∧ Rel P g σ w' :=
  ⟨E.of_heap hr.gw h.size h.block ⟨h.os, h.tape, h.output⟩, hr.of_heap h.size h.block ⟨h.os, h.tape, h.output⟩⟩

theorem freeze_heap (w : World) (a : Addr) (n : Nat) : (w.freeze a n).heap.size = w.heap.size ∧ (∀ k, k ≠ a.block → (w.freeze a n).heap[k]? = w.heap[k]?) ∧ OS w (w.freeze a n) := by
  unfold World.freeze
  split
  · exact ⟨rfl, fun _ _ => rfl, rfl, rfl, rfl⟩
  · refine ⟨by simp only [Array.size_modify], fun k hk => ?_, rfl, rfl, rfl⟩
    simp only
    rw [Array.getElem?_modify, if_neg (Ne.symm hk)]

theorem below_bytes (w : World) (e : Nat) (s : ByteArray) : Below w.heap.size w (Lib.bytesWorld w e s) := by
  unfold Lib.bytesWorld
  obtain ⟨h1, h2, h3⟩ := freeze_heap (w.drew.alloc (.cells (Lib.bytesCells w e s) e)) ⟨w.heap.size, (Lib.bytesCells w e s).size, none⟩ 1
  refine ⟨h3.os, h3.tape, h3.output, ?_, fun k hk => ?_⟩
  · rw [h1, World.size_alloc]
    exact Nat.le_succ _
  · rw [h2 k (by simp only; omega)]
    exact heap_alloc_old w.drew _ k hk

theorem GL.cell {g : G} {w : World} {cs : List D} {k : Nat} (h : GL g w cs k) {i : Nat} {d : D} (hd : cs[i]? = some d) : ∃ u, w.cell? ⟨k, i, none⟩ = some u ∧ R g w d u := by
  obtain ⟨⟨c, e, z, hh, hc⟩, _⟩ := h
  obtain ⟨u, hu, _, hr⟩ := hc.get hd
  exact ⟨u, cell_of_heap hh (by simpa using hu), hr⟩

theorem GL.ints {g : G} {w : World} {k : Nat} {kd : IntKind} {zs : List Int} (h : GL g w (zs.map fun z => .int kd z) k) : ∃ e z, w.heap[k]? = some (.cells (zs.map fun z => Value.int kd z).toArray e z) := by
  obtain ⟨⟨c, e, z, hh, hc⟩, _⟩ := h
  refine ⟨e, z, ?_⟩
  rw [hh]
  congr 2
  apply Array.ext'
  have hl := hc.length
  simp only [List.length_map] at hl
  refine List.ext_getElem (by simp [hl]) fun i h1 h2 => ?_
  have hi : i < zs.length := by simpa [hl] using h1
  obtain ⟨u, hu, _, hr⟩ := hc.get (i := i) (d := .int kd zs[i]) (by simp [hi])
  simp only [R] at hr
  subst hr
  rw [List.getElem?_eq_getElem h1] at hu
  injection hu with hu
  rw [hu]
  simp

end Go.Hl
