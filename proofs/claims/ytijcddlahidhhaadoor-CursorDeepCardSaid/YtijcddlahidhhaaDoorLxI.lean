/-
  Layer 6: strings.Builder; a token's text; Join.
-/
import Derived.Test.YtijcddlahidhhaaDoorLxH
set_option linter.unusedSectionVars false
set_option linter.unusedVariables false
set_option linter.unusedSimpArgs false
set_option maxRecDepth 100000
namespace Go.Hl
open Go Go.Proofs Go.RowKit

def textT (s : ByteArray) (x : Tk3) : ByteArray := s.extract x.f x.t

theorem ttext_calls (s : ByteArray) (x : Tk3) (h1 : x.f ≤ x.t) (h2 : x.t ≤ s.size) (σ : St) : HCalls Tryd.prog 25 [.agg (encK3 x), .str s] σ (fun d σ' => d = .str (textT s x) ∧ σ' = σ) := by
  refine hcalls_body (fn := Tryd.f25) rfl c25 (by simp [h25]) (by simp [h25, Tryd.f25]) ?_
  intro M hP hr hnt hnx hwf hlt
  simp only [h25, argEnv]
  have d1 : decide ((x.f : Int) < 0) = false := decide_eq_false (by omega)
  have d2 : decide ((x.f : Int) > (x.t : Int)) = false := decide_eq_false (by omega)
  have d3 : decide ((x.t : Int) > (s.size : Int)) = false := decide_eq_false (by omega)
  have p1 : (0 : Int) ≤ (x.t : Int) ∧ (x.t : Int) ≤ (s.size : Int) ∧ (0 : Int) ≤ (x.f : Int) ∧ (x.f : Int) ≤ (x.t : Int) := by omega
  refine hgo_sound 90 ?_
  simp -implicitDefEqProofs (maxSteps := 1000000) only [simpS, ↓condJ_true, ↓condJ_false, ↓reduceIte, Nat.reduceEqDiff, Nat.reduceLT, Nat.reduceLeDiff, reduceCtorEq, Nat.reduceAdd, Nat.reduceSub, bindG_none, addG_none, hgrpK_none, nestK_none, hgrpK_guarded, Option.map_none, beq_self_eq_true, bne_self_eq_false, Option.map_some, if_true, if_false, List.getD_cons_zero, List.getD_cons_succ, List.length_cons, List.length_nil, List.mem_cons, List.not_mem_nil, List.mem_append, List.nil_append, List.cons_append, List.append_nil, List.take_succ_cons, List.take_zero, List.drop_succ_cons, List.drop_zero, List.set_cons_zero, List.set_cons_succ, List.map_cons, List.map_nil, implies_true, forall_const, ne_eq, d1, d2, d3, p1.1, p1.2.1, p1.2.2.1, p1.2.2.2, Int.toNat_natCast]
  exact fpost_pure (σ0 := σ) (.inr rfl) (by rw [hnx]; exact Nat.le_refl _) hwf (by first | exact Sub.refl σ | exact (((Ext.refl _).new _).sub hwf)) rfl trivial (by repeat' (first | trivial | apply And.intro)) ⟨rfl, rfl⟩

end Go.Hl
