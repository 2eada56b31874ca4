/-
  The equations of the walk's functions, as rewriting steps with a proof of their own.
-/
import Derived.Test.YtijcddlahidhhaaDoorHlQ
set_option linter.unusedSectionVars false
set_option linter.unusedVariables false
namespace Go.Hl
open Go

theorem evX_e : type_of% @evX.eq_def := @evX.eq_def
theorem putO_e : type_of% @putO.eq_def := @putO.eq_def
theorem rdD_e : type_of% @rdD.eq_def := @rdD.eq_def
theorem binD_e : type_of% @binD.eq_def := @binD.eq_def
theorem storeD_e : type_of% @storeD.eq_def := @storeD.eq_def
theorem wrD_e : type_of% @wrD.eq_def := @wrD.eq_def
theorem boundD_e : type_of% @boundD.eq_def := @boundD.eq_def
theorem sliceD_e : type_of% @sliceD.eq_def := @sliceD.eq_def
theorem sliceSD_e : type_of% @sliceSD.eq_def := @sliceSD.eq_def
theorem appendD_e : type_of% @appendD.eq_def := @appendD.eq_def
theorem vsliceD_e : type_of% @vsliceD.eq_def := @vsliceD.eq_def
theorem vappendD_e : type_of% @vappendD.eq_def := @vappendD.eq_def
theorem srcD_e : type_of% @srcD.eq_def := @srcD.eq_def
theorem hval_e : type_of% @hval.eq_def := @hval.eq_def
theorem hstep_e : type_of% @hstep.eq_def := @hstep.eq_def
theorem hone_e : type_of% @hone.eq_def := @hone.eq_def
theorem pickV_e : type_of% @pickV.eq_def := @pickV.eq_def
theorem addB_e : type_of% @addB.eq_def := @addB.eq_def
theorem nilEqD_e : type_of% @nilEqD.eq_def := @nilEqD.eq_def
theorem ifEqD_e : type_of% @ifEqD.eq_def := @ifEqD.eq_def
theorem usdD_e : type_of% @usdD.eq_def := @usdD.eq_def
theorem ustrD_e : type_of% @ustrD.eq_def := @ustrD.eq_def
theorem dOne_e : type_of% @dOne.eq_def := @dOne.eq_def
theorem guardB_e : type_of% @guardB.eq_def := @guardB.eq_def
theorem envI_e : type_of% @envI.eq_def := @envI.eq_def
theorem look_e1 : type_of% @look.eq_1 := @look.eq_1
theorem look_e2 : type_of% @look.eq_2 := @look.eq_2
theorem putE_e1 : type_of% @putE.eq_1 := @putE.eq_1
theorem putE_e2 : type_of% @putE.eq_2 := @putE.eq_2
theorem killE_e1 : type_of% @killE.eq_1 := @killE.eq_1
theorem killE_e2 : type_of% @killE.eq_2 := @killE.eq_2
theorem killsE_e1 : type_of% @killsE.eq_1 := @killsE.eq_1
theorem killsE_e2 : type_of% @killsE.eq_2 := @killsE.eq_2
theorem delN_e1 : type_of% @delN.eq_1 := @delN.eq_1
theorem delN_e2 : type_of% @delN.eq_2 := @delN.eq_2
theorem delsN_e1 : type_of% @delsN.eq_1 := @delsN.eq_1
theorem delsN_e2 : type_of% @delsN.eq_2 := @delsN.eq_2
theorem buildD_e1 : type_of% @buildD.eq_1 := @buildD.eq_1
theorem buildD_e2 : type_of% @buildD.eq_2 := @buildD.eq_2
theorem fillD_e1 : type_of% @fillD.eq_1 := @fillD.eq_1
theorem fillD_e2 : type_of% @fillD.eq_2 := @fillD.eq_2
theorem hexit_e1 : type_of% @hexit.eq_1 := @hexit.eq_1
theorem hexit_e2 : type_of% @hexit.eq_2 := @hexit.eq_2
theorem hexit_e3 : type_of% @hexit.eq_3 := @hexit.eq_3
theorem dRun_e1 : type_of% @dRun.eq_1 := @dRun.eq_1
theorem dRun_e2 : type_of% @dRun.eq_2 := @dRun.eq_2
theorem dOk_e1 : type_of% @dOk.eq_1 := @dOk.eq_1
theorem dOk_e2 : type_of% @dOk.eq_2 := @dOk.eq_2
theorem dFin_e1 : type_of% @dFin.eq_1 := @dFin.eq_1
theorem dFin_e2 : type_of% @dFin.eq_2 := @dFin.eq_2
theorem lowE_e1 : type_of% @lowE.eq_1 := @lowE.eq_1
theorem lowE_e2 : type_of% @lowE.eq_2 := @lowE.eq_2
theorem effsFrom_e1 : type_of% @effsFrom.eq_1 := @effsFrom.eq_1
theorem effsFrom_e2 : type_of% @effsFrom.eq_2 := @effsFrom.eq_2
theorem eqCells_e1 : type_of% @eqCells.eq_1 := @eqCells.eq_1
theorem eqCells_e2 : type_of% @eqCells.eq_2 := @eqCells.eq_2
theorem eqCells_e3 : type_of% @eqCells.eq_3 := @eqCells.eq_3
theorem eqCells_e4 : type_of% @eqCells.eq_4 := @eqCells.eq_4

end Go.Hl
