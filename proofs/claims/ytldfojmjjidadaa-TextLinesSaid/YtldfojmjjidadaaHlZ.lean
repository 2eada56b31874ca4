/-
  Small helpers: what counts and stops; a function's end with its result in a variable.
-/
import Derived.Test.YtldfojmjjidadaaHlN
import Derived.IntWalk
set_option linter.unusedSectionVars false
set_option linter.unusedVariables false
namespace Go.Hl
open Go

/-- A step that counts, up to st. -/
def cntStep {T : Type} (i : Nat) (st : Int) (k : Int) (x : T) : Int × Option HC := (k + 1, if k + 1 = st then some (.exit i) else none)

theorem cntStep_run {T : Type} (i : Nat) (st : Int) : ∀ (xs : List T) (k : Int), k < st → rngRun (cntStep i st) k xs = (min st (k + xs.length), if st ≤ k + xs.length then some (.exit i) else none)
  | [], k, h => by
    simp only [rngRun, List.length_nil, Int.ofNat_eq_natCast, Int.natCast_zero, Int.add_zero]
    rw [if_neg (by omega)]
    congr 1
    omega
  | x :: xs, k, h => by
    simp only [rngRun, cntStep]
    by_cases e : k + 1 = st
    · rw [if_pos e]
      simp only [List.length_cons]
      rw [if_pos (by omega)]
      congr 1
      omega
    · rw [if_neg e]
      simp only
      rw [cntStep_run i st xs (k + 1) (by omega)]
      simp only [List.length_cons]
      have : k + 1 + (xs.length : Int) = k + ((xs.length + 1 : Nat) : Int) := by omega
      rw [this]

theorem cntStep_oks {T : Type} (W : List T) (i : Nat) (st : Int) : ∀ (xs : List T) (j : Nat), W.drop j = xs →
    rngOks (fun (k : Int) (x : T) => ∃ j : Nat, k = j ∧ W[j]? = some x) (cntStep i st) (j : Int) xs
  | [], j, _ => trivial
  | x :: xs, j, h => by
    have hx : W[j]? = some x := by
      have := congrArg (fun l => l[0]?) h
      simpa using this
    refine ⟨⟨j, rfl, hx⟩, fun _ => ?_⟩
    have := cntStep_oks W i st xs (j + 1) (by rw [← List.drop_drop, h]; rfl)
    exact this

/-- 1 + int(uint(s) % m) -/
def stopM (m s : Int) : Int := IntKind.i64.wrap (1 + IntKind.i64.wrap ((IntKind.u64.wrap s).tmod m))
theorem stopM_pos (m s : Int) (h1 : 1 ≤ m) (h2 : m ≤ 1000) : 1 ≤ stopM m s ∧ stopM m s ≤ m := by
  have h0 : 0 ≤ IntKind.u64.wrap s := by
    simp only [IntKind.wrap, IntKind.bits, IntKind.signed]
    simp
    omega
  unfold stopM
  generalize IntKind.u64.wrap s = y at *
  have h3 : y.tmod m = y % m := Int.tmod_eq_emod_of_nonneg h0
  have h4 := Int.emod_nonneg y (show m ≠ 0 by omega)
  have h5 := Int.emod_lt_of_pos y (show 0 < m by omega)
  rw [h3, IntWalk.i64_in (y % m) (by omega), IntWalk.i64_in _ (by omega)]
  omega

def tlC : HC → HC
  | .seq _ b => b
  | c => c
def hdC : HC → HC
  | .seq a _ => a
  | c => c

end Go.Hl
