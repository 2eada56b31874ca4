/-
  From a contract over data to the machine's own, for a function that is handed a world.
-/
import Derived.Test.YtijcddlahidhhaaDoorHlP
import Derived.Below
set_option linter.unusedSectionVars false
set_option linter.unusedVariables false
namespace Go.Hl
open Go Go.RowKit

def g0 : G := ⟨fun _ => none, 0⟩
def σ0 : St := ⟨fun _ => none, fun _ => none, 0⟩

theorem rel0 (P : Program) (W : World) : Rel P g0 σ0 W where
  gw := { lt := (fun _ _ h => by cases h), bl := (fun _ _ _ h => by cases h), inj := (fun _ _ _ _ _ h => by cases h), arr := (fun _ _ _ _ _ h => by cases h) }
  next := rfl
  obj := fun _ _ h => by cases h
  glob := fun _ _ h => by cases h

theorem opt_mapM {α β : Type} {f : α → Option β} : ∀ {l : List α} {ys : List β}, l.mapM f = some ys → ys.length = l.length ∧ ∀ (i : Nat) x, l[i]? = some x → ∃ y, ys[i]? = some y ∧ f x = some y
  | [], ys, h => by
    simp at h
    subst h
    exact ⟨rfl, fun i x h => by simp at h⟩
  | a :: l, ys, h => by
    rw [List.mapM_cons] at h
    cases ha : f a with
    | none => simp [ha] at h
    | some y =>
      cases hl : l.mapM f with
      | none => simp [ha, hl] at h
      | some zs =>
        simp [ha, hl] at h
        subst h
        obtain ⟨h1, h2⟩ := opt_mapM hl
        refine ⟨by simp [h1], fun i x hx => ?_⟩
        cases i with
        | zero =>
          simp at hx
          subst hx
          exact ⟨y, rfl, ha⟩
        | succ i => simpa using h2 i x (by simpa using hx)

section
variable {H : Type} {enc : TypeId × Value → H} {P : Program} {W : World} {sp : Nat → Bool} {held : Bool}

end

end Go.Hl
