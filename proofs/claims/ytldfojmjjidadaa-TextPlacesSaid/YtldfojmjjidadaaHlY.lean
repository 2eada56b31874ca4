/-
  Cells of a box, read and written by the library's own atomics; contracts of this layer, met in a walk of the kit's.
-/
import Derived.Test.YtldfojmjjidadaaHlW
import Derived.Laws.LoneSync
set_option linter.unusedSectionVars false
set_option linter.unusedVariables false
namespace Go.Hl
open Go Go.RowKit

theorem G.set_eq {g : G} {id : Nat} {h : Gh} (hid : g.at_ id = some h) : g.set id h = g := by
  unfold G.set
  congr 1
  funext j
  split
  · rename_i e; rw [e, hid]
  · rfl

/-- A cell of a box. -/
theorem box_cell {P : Program} {g : G} {w : World} {σ : St} {id i : Nat} {ot : Option Nat} {cs : List D} {k : IntKind} {x : Int} (hrel : Rel P g σ w) (ho : σ.obj id = some (.bx ot cs)) (hi : cs[i]? = some (.int k x)) :
    ∃ b, g.at_ id = some (.box b) ∧ w.cell? ⟨b, i, none⟩ = some (.int k x) ∧ w.frozen? ⟨b, i, none⟩ = false := by
  obtain ⟨b, c, e, hid, hh, hc, hot⟩ := hrel.obj id _ ho
  obtain ⟨u, hu, _, hr⟩ := hc.get hi
  simp only [R] at hr
  subst hr
  exact ⟨b, hid, cell_of_heap hh (by simpa using hu), by simp [World.frozen?, hh]⟩

/-- ... and a number stored there. -/
theorem box_store {P : Program} {g : G} {w : World} {σ : St} {id i b : Nat} {ot : Option Nat} {cs : List D} {k k' : IntKind} {x y : Int} (hrel : Rel P g σ w) (ho : σ.obj id = some (.bx ot cs)) (hi : cs[i]? = some (.int k x)) (hb : g.at_ id = some (.box b)) :
    E g w g (w.setCell ⟨b, i, none⟩ (.int k' y)) ∧ Rel P g (σ.put id (.bx ot (cs.set i (.int k' y)))) (w.setCell ⟨b, i, none⟩ (.int k' y)) := by
  obtain ⟨b', c, e, hid, hh, hc, hot⟩ := hrel.obj id _ ho
  rw [hb] at hid
  injection hid with hid
  injection hid with hid
  subst hid
  have hil : i < cs.length := (List.getElem?_eq_some_iff.1 hi).1
  have hcl := hc.length
  simp only [Array.length_toList] at hcl
  have hh' : (w.setCell ⟨b, i, none⟩ (.int k' y)).heap[b]? = some (.cells (c.setIfInBounds i (.int k' y)) e (0, 0)) := by
    simp [World.setCell, Array.getElem?_modify, hh]
  have hblk : ∀ j, j ≠ b → (w.setCell ⟨b, i, none⟩ (.int k' y)).heap[j]? = w.heap[j]? := fun j hj => by
    simp [World.setCell, Array.getElem?_modify, Ne.symm hj]
  have hsz : (w.setCell ⟨b, i, none⟩ (.int k' y)).heap.size = w.heap.size := by simp [World.setCell]
  obtain ⟨hE, hR⟩ := upd_step (w' := w.setCell ⟨b, i, none⟩ (.int k' y)) (o' := .bx ot (cs.set i (.int k' y))) hrel hb (.refl _) (fun _ => rfl) (by rw [hsz]; exact Nat.le_refl _)
    (fun j _ hj => hblk j (fun e => hj (by rw [e]; rfl))) ⟨rfl, rfl, rfl⟩ (fun _ _ _ _ _ _ _ e => by cases e) (fun b' e => by
      simp only [Gh.block, Option.some.injEq] at e
      rw [← e, hsz]; exact hrel.gw.bl id _ b hb rfl) (fun _ _ _ _ e => by cases e) (fun hE => by
      rw [G.set_eq hb] at hE ⊢
      refine ⟨b, _, e, hb, hh', RC.of_get (by simp [hcl]) fun j d u hd hu => ?_, hot⟩
      by_cases hj : j = i
      · subst hj
        rw [List.getElem?_set_self hil] at hd
        injection hd with hd
        subst hd
        have : (c.setIfInBounds j (.int k' y))[j]? = some (.int k' y) := by rw [Array.getElem?_setIfInBounds]; simp; omega
        rw [Array.getElem?_toList, this] at hu
        injection hu with hu
        subst hu
        simp only [R]
        exact ⟨rfl, trivial⟩
      · rw [List.getElem?_set_ne (Ne.symm hj)] at hd
        rw [Array.getElem?_toList, Array.getElem?_setIfInBounds_ne (Ne.symm hj)] at hu
        obtain ⟨u2, hu2, ho2, hr2⟩ := hc.get hd
        rw [Array.getElem?_toList, hu] at hu2
        injection hu2 with hu2
        subst hu2
        exact ⟨ho2, R.mono hE hrel.gw _ _ hr2⟩)
  rw [G.set_eq hb] at hE hR
  exact ⟨hE, hR⟩

/-- A contract of this layer, at the kit's own 'Calls'. -/
theorem hcalls_calls {P : Program} {f : Nat} {ds : List D} {σ : St} {Q : D → St → Prop} {g : G} {w : World} {vs : List Value} (hb : hasBody P f = true) (h : HCalls P f ds σ Q) (hr : Rel P g σ w) (hl : RL g w ds vs) :
    Calls P f vs.toArray w fun e w' => ∃ v d g' σ', e = .returned v ∧ E g w g' w' ∧ Rel P g' σ' w' ∧ R g' w' d v ∧ Q d σ' := by
  have h1 := h g w vs hr hl
  rw [callFunc_has hb] at h1
  refine callsIn_wide.1 (CallsIn.mono h1 ?_)
  intro e w' he
  cases e <;> simp only [HRet] at he
  obtain ⟨d, g', σ', h2, h3, h4, h5⟩ := he
  exact ⟨_, d, g', σ', rfl, h2, h3, h4, h5⟩

theorem hcalls_of {P : Program} {f : Nat} {args : List D} {σ : St} {Q : D → St → Prop} (hb : hasBody P f = true)
    (h : ∀ g w vs, Rel P g σ w → RL g w args vs → Calls P f vs.toArray w fun e w' => ∃ v d g' σ', e = .returned v ∧ E g w g' w' ∧ Rel P g' σ' w' ∧ R g' w' d v ∧ Q d σ') : HCalls P f args σ Q := by
  intro g w vs hr hl
  rw [callFunc_has hb]
  refine CallsIn.mono (callsIn_wide.2 (h g w vs hr hl)) ?_
  rintro e w' ⟨v, d, g', σ', rfl, hE, hR, hd, hq⟩
  exact ⟨d, g', σ', hE, hR, hd, hq⟩

/-- What is fixed about a box stays. -/
theorem E.box {g g' : G} {w w' : World} (h : E g w g' w') {id b : Nat} (hb : g.at_ id = some (.box b)) : g'.at_ id = some (.box b) := h.keep id _ hb rfl

section
variable {P : Program} {f : Nat} {fn : Func}

theorem load_calls (hf : P.funcs[f]? = some fn) (hname : (fn.name == "runtime.NumGoroutine") = false) (hb : fn.body.isNone = true) (hn : Extern.findNext fn = none) (k : IntKind) (he : Extern.find fn = some (Extern.Atomic.loadT (.int k)))
    {σ : St} {id i : Nat} {ot : Option Nat} {cs : List D} {x : Int} (ho : σ.obj id = some (.bx ot cs)) (hi : cs[i]? = some (.int k x)) : HCalls P f [.ptr id i] σ (fun d σ' => d = .int k x ∧ σ' = σ) := by
  intro g w vs hr hl
  simp only [RL, R] at hl
  obtain ⟨_, _, rfl, ⟨b, hb1, rfl⟩, rfl⟩ := hl
  obtain ⟨b', hb2, hc, _⟩ := box_cell hr ho hi
  rw [hb1] at hb2
  injection hb2 with hb2
  injection hb2 with hb2
  subst hb2
  have hrun := run_call_load hf hname hb hn k he hc
  show NextOk P _ ((callFunc f #[.pointer (some ⟨b, i, none⟩)]).run P w)
  rw [hrun]
  exact ⟨.int k x, g, σ, E.refl g w hr.gw, hr, rfl, rfl, rfl⟩

theorem add_calls (hf : P.funcs[f]? = some fn) (hname : (fn.name == "runtime.NumGoroutine") = false) (hb : fn.body.isNone = true) (hn : Extern.findNext fn = none) (k : IntKind) (he : Extern.find fn = some (Extern.Atomic.update (Op.intArith .add) k true))
    {σ : St} {id i : Nat} {ot : Option Nat} {cs : List D} {x y s : Int} (hs : ∀ w, (Op.intArith .add k x y).run P w = .ok (.int k s) w) (ho : σ.obj id = some (.bx ot cs)) (hi : cs[i]? = some (.int k x)) :
    HCalls P f [.ptr id i, .int k y] σ (fun d σ' => d = .int k s ∧ σ' = σ.put id (.bx ot (cs.set i (.int k s)))) := by
  intro g w vs hr hl
  simp only [RL, R] at hl
  obtain ⟨_, _, rfl, ⟨b, hb1, rfl⟩, _, _, rfl, rfl, rfl⟩ := hl
  obtain ⟨b', hb2, hc, hz⟩ := box_cell hr ho hi
  rw [hb1] at hb2
  injection hb2 with hb2
  injection hb2 with hb2
  subst hb2
  have hrun := run_call_add hf hname hb hn k he hc hz (hs w)
  show NextOk P _ ((callFunc f #[.pointer (some ⟨b, i, none⟩), .int k y]).run P w)
  rw [hrun]
  obtain ⟨h1, h2⟩ := box_store (k' := k) (y := s) hr ho hi hb1
  exact ⟨.int k s, g, _, h1, h2, rfl, rfl, rfl⟩

end

end Go.Hl
