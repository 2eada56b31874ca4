/-
  Layer 1: sync.Once: Do.
-/
import Derived.Test.YtldfojmjjidadaaTxA
set_option linter.unusedSectionVars false
set_option linter.unusedVariables false
set_option linter.unusedSimpArgs false
set_option maxRecDepth 100000
namespace Go.Hl
open Go Go.Proofs Go.RowKit

theorem slow_calls {F : Nat} (hb : hasBody Try.prog F = true) {σ : St} {id off : Nat} {ot : Option Nat} {cs caps : List D} (ho : σ.obj id = some (.bx ot cs)) (h0 : cs[off]? = some (.int .u32 0)) (h1 : cs[off + 1]? = some (.int .i32 0)) {Q : St → Prop}
    (hf : HCalls Try.prog F caps (σ.put id (.bx ot (cs.set (off + 1) (.int .i32 1)))) (fun d σ' => d = .tuple [] ∧ ∃ cs', σ'.obj id = some (.bx ot cs') ∧ cs'[off]? = some (.int .u32 0) ∧ cs'[off + 1]? = some (.int .i32 1) ∧
      Q (σ'.put id (.bx ot ((cs'.set off (.int .u32 1)).set (off + 1) (.int .i32 0)))))) :
    HCalls Try.prog 34 [.ptr id off, .func F caps] σ (fun d σ' => d = .tuple [] ∧ Q σ') := by
  refine hcalls_of (by kernel_rfl) fun g w vs hr hl => ?_
  simp only [RL, R] at hl
  obtain ⟨_, _, rfl, ⟨b, hb1, rfl⟩, _, _, rfl, ⟨cv, rfl, hcv⟩, rfl⟩ := hl
  obtain ⟨b', hb2, c0, z0⟩ := box_cell hr ho h0
  rw [hb1] at hb2; injection hb2 with hb2; injection hb2 with hb2; subst hb2
  obtain ⟨b', hb2, c1, z1⟩ := box_cell hr ho h1
  rw [hb1] at hb2; injection hb2 with hb2; injection hb2 with hb2; subst hb2
  obtain ⟨E1, R1⟩ := box_store (k' := .i32) (y := 1) hr ho h1 hb1
  have hcv1 := RL.mono E1 hr.gw _ _ hcv
  have hF := hcalls_calls hb hf R1 hcv1
  rw [Array.toArray_toList] at hF
  refine (Go.Proofs.Ytldfojmjjidadaa.slow_any F cv b off (fun w' => ∃ d g' σ', E g w g' w' ∧ Rel Try.prog g' σ' w' ∧ R g' w' d (.tuple #[]) ∧ d = .tuple [] ∧ Q σ') w hb c0 c1 z1 (hF.mono ?_)).mono ?_
  · rintro e w2 ⟨v, d, g2, σ2, rfl, E2, R2, hd, rfl, cs', ho', h0', h1', hq⟩
    simp only [R] at hd
    obtain ⟨vv, rfl, hvv⟩ := hd
    simp only [RL] at hvv
    have hvv' : vv = #[] := by cases vv; simp_all
    subst hvv'
    have hbx := E2.box hb1
    obtain ⟨b', hb2, c0', z0'⟩ := box_cell R2 ho' h0'
    rw [hbx] at hb2; injection hb2 with hb2; injection hb2 with hb2; subst hb2
    obtain ⟨b', hb2, c1', z1'⟩ := box_cell R2 ho' h1'
    rw [hbx] at hb2; injection hb2 with hb2; injection hb2 with hb2; subst hb2
    refine ⟨rfl, c0', z0', c1', z1', .tuple [], g2, _, ?_, ?_, ⟨#[], rfl, rfl⟩, rfl, hq⟩
    all_goals
      have E3 : E g2 w2 g2 w2.drew := E.of_heap R2.gw (Nat.le_refl _) (fun _ _ => rfl)
      have R3 : Rel Try.prog g2 σ2 w2.drew := R2.of_heap (Nat.le_refl _) (fun _ _ => rfl)
      obtain ⟨E4, R4⟩ := box_store (k' := .u32) (y := 1) R3 ho' h0' hbx
      obtain ⟨E5, R5⟩ := box_store (i := off + 1) (k := .i32) (x := 1) (k' := .i32) (y := 0) R4 (by simp only [St.obj_put, if_true]; rfl) (by rw [List.getElem?_set_ne (by omega)]; exact h1') hbx
    · exact E.trans hr.gw E1 (E.trans R1.gw E2 (E.trans R2.gw E3 (E.trans R3.gw E4 E5)))
    · rw [St.put_put] at R5
      exact R5
  · rintro e w' ⟨rfl, d, g', σ', h1, h2, h3, h4, h5⟩
    exact ⟨_, d, g', σ', rfl, h1, h2, h3, h4, h5⟩

end Go.Hl
