/-
  tree.down.
-/
import Derived.Test.YtijcddlahidhhaaDoorTrA
set_option linter.unusedSectionVars false
set_option linter.unusedVariables false
set_option linter.unusedSimpArgs false
set_option maxRecDepth 100000
namespace Go.Hl
open Go Go.Proofs

structure DS (C : Type) where
  st : List (Int × Nd)
  c : C
  tid : Nat
  vid : Nat
  g : Nat

def DS.T {X : Type} (tk : Tk X) (s : DS tk.C) : St := ((tk.T s.c).newAt s.vid (.vec s.g 6 (encSt s.st))).newAt s.tid (.box [.vec s.vid s.g])

theorem DS.wf {X : Type} (tk : Tk X) (s : DS tk.C) (hv : tk.N ≤ s.vid) (ht : s.vid < s.tid) : (DS.T tk s).wf :=
  ((tk.wf s.c).newAt (by rw [tk.next]; exact hv) (show (Ob.vec s.g 6 (encSt s.st)).lt (s.vid + 1) from encSt_lt _ _)).newAt (by rw [St.next_newAt]; omega) (by simp only [Ob.lt, ltL, D.lt, and_true]; omega)

structure PS where
  st : List (Int × Nd)
  g : Nat

def PS.step (d : Int) (p : PS) (x : Int × Nd) : PS × Option HC := (⟨(d + 1, x.2) :: p.st, p.g + 1⟩, none)

theorem PS.run (d : Int) : ∀ (xs : List (Int × Nd)) (p : PS), rngRun (PS.step d) p xs = (⟨(xs.map fun x => (d + 1, x.2)).reverse ++ p.st, p.g + xs.length⟩, none)
  | [], p => rfl
  | x :: xs, p => by
    simp only [rngRun, PS.step]
    rw [PS.run d xs]
    simp
    omega

theorem PS.oks (d : Int) : ∀ (xs : List (Int × Nd)) (p : PS), p.st.length + xs.length ≤ 1099511627776 → rngOks (fun (p : PS) (x : Int × Nd) => p.st.length < 1099511627776) (PS.step d) p xs
  | [], p, _ => trivial
  | x :: xs, p, h => by
    simp only [List.length_cons] at h
    refine ⟨by show p.st.length < _; omega, fun _ => PS.oks d xs _ ?_⟩
    simp only [PS.step, List.length_cons]
    omega

end Go.Hl
