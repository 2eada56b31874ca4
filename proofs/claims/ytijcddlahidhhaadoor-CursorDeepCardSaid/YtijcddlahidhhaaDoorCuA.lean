/-
  Layer 8: what it takes over from the layers below: tree.Text, Token, Make.
-/
import Derived.Test.YtijcddlahidhhaaDoorLxI
import Derived.Test.YtijcddlahidhhaaDoorTrD
import Derived.Test.YtijcddlahidhhaaDoorHlR
set_option linter.unusedSectionVars false
set_option linter.unusedVariables false
set_option linter.unusedSimpArgs false
set_option maxRecDepth 100000
namespace Go.Hl
open Go Go.Proofs Go.RowKit

theorem token_calls (g t : ByteArray) (a : Int) (σ : St) : HCalls Tryd.prog 33 [.str g, .str t, .int .i64 a] σ (fun d σ' => d = .agg (encN (.mk 1 g t a [])) ∧ σ' = σ) := by
  refine hcalls_body (fn := Tryd.f33) rfl c33 (by simp [h33]) (by simp [h33, Tryd.f33]) ?_
  intro M hP hr hnt hnx hwf hlt
  simp only [h33, argEnv]
  refine hgo_sound 40 ?_
  simp -implicitDefEqProofs (maxSteps := 1000000) only [simpS, ↓condJ_true, ↓condJ_false, ↓reduceIte, Nat.reduceEqDiff, Nat.reduceLT, Nat.reduceLeDiff, reduceCtorEq, Nat.reduceAdd, Nat.reduceSub, bindG_none, addG_none, hgrpK_none, nestK_none, hgrpK_guarded, Option.map_none, beq_self_eq_true, bne_self_eq_false, Option.map_some, if_true, if_false, List.getD_cons_zero, List.getD_cons_succ, List.length_cons, List.length_nil, List.mem_cons, List.not_mem_nil, List.mem_append, List.nil_append, List.cons_append, List.append_nil, List.take_succ_cons, List.take_zero, List.drop_succ_cons, List.drop_zero, List.set_cons_zero, List.set_cons_succ, List.map_cons, List.map_nil, implies_true, forall_const, ne_eq]
  refine fpost_wk (ds := [.agg [.int .i64 1, .str g, .str t, .int .i64 a, .slice .nil 0 []]]) (.agg (.cons (.refl _) (.cons (.refl _) (.cons (.refl _) (.cons (.refl _) (.cons .nil .nil)))))) (.inr rfl) (by omega) hwf (((Ext.refl σ).new _).sub hwf) (resD_cellS rfl (by simp [St.obj_new]; rfl) rfl resD_nil) ⟨by simp, trivial⟩ ⟨trivial, trivial, trivial, trivial, ⟨trivial, trivial⟩, trivial⟩ ⟨rfl, rfl⟩

end Go.Hl
