/-
  The start: what the listed variables hold; a world that holds it.
-/
import Derived.Test.YtijcddlahidhhaaDoorLxB
import Derived.Handed
import Derived.Shelf.Vars
import Derived.ProofKit
import Derived.SizedLaws
import Derived.Carry
import Derived.OpenShut
import Derived.ChangeMaps5
import Derived.SevenTiedAt
import Derived.Test.YtijcddlahidhhaaDoorHlX
import Derived.Test.YtijcddlahidhhaaDoorRows
import Derived.LaidLaws
import Derived.LaidHandle
set_option linter.unusedVariables false
set_option maxRecDepth 100000
namespace Go.Proofs.YtijcddlahidhhaaDoor
open Go Go.Hl Go.RowKit Go.ChangeShapes Go.WideShapes Go.ChangeAt

def laidL : List (String × DataW Unit) := [("math/bits.deBruijn32tab", Rows.laid_math_bits_deBruijn32tab), ("math/bits.deBruijn64tab", Rows.laid_math_bits_deBruijn64tab), ("internal/strconv.uint64pow10", Rows.laid_internal_strconv_uint64pow10), ("strconv.ErrRange", Rows.laid_strconv_ErrRange), ("strconv.ErrSyntax", Rows.laid_strconv_ErrSyntax), ("namesake/sign.words", Rows.laid_namesake_sign_words)]

def glK (t1 t2 : Nat) (m : Int) (k : Nat) : Option (List D) :=
  if k = 0 then some (kwS.map D.str)
  else if k = 2 then some [.iface t1 .undef]
  else if k = 3 then some [.iface t2 .undef]
  else if k = 4 then some (Lib.pow10Tab.map fun z => .int .u64 z)
  else if k = 1 then some [.int .i64 m]
  else none

theorem start_of {W : World} (h : laidMet Tryd.prog laidL W) (hsh : W.ShapedOpen Tryd.prog) : ∃ σ, GM σ ∧ Rel Tryd.prog g0 σ W := by
  obtain ⟨m, hm⟩ := Go.Proofs.cell_of_shapedOpen_int (g := 1) (zero := #[.int .i64 0]) (t := 3) hsh (of_decide_eq_true (by kernel_rfl)) (by kernel_rfl) rfl (by kernel_rfl) (by kernel_rfl) Tryd.underlying3
  obtain ⟨ps, ⟨_, _, _, _, _, _, _, _, _, _, ⟨_, _, _, _, _, _, _, _, _, _, ⟨gp, tp, cp, fp, pp, qp, hgp, htp, hvp, hdp, ⟨gr, tr, cr, fr, pr, qr, hgr, htr, hvr, hdr, ⟨gs, ts, cs, fs, ps', qs, hgs, hts, hvs, hds, ⟨gw, tw, cw, fw, pw, qw, hgw, htw, hvw, hdw, _⟩, _⟩, _⟩, _⟩, _⟩, _⟩, _⟩ := h
  obtain rfl := Option.some.inj ((show Tryd.prog.globalNamed "internal/strconv.uint64pow10" = some 4 by kernel_rfl).symm.trans hgp)
  obtain rfl := Option.some.inj ((show Tryd.prog.globalNamed "strconv.ErrRange" = some 3 by kernel_rfl).symm.trans hgr)
  obtain rfl := Option.some.inj ((show Tryd.prog.globalNamed "strconv.ErrSyntax" = some 2 by kernel_rfl).symm.trans hgs)
  obtain rfl := Option.some.inj ((show Tryd.prog.globalNamed "namesake/sign.words" = some 0 by kernel_rfl).symm.trans hgw)
  obtain rfl := Option.some.inj ((show (Tryd.prog.globals[4]?).map (·.type) = some 135 by kernel_rfl).symm.trans htp)
  obtain rfl := Option.some.inj ((show (Tryd.prog.globals[3]?).map (·.type) = some 25 by kernel_rfl).symm.trans htr)
  obtain rfl := Option.some.inj ((show (Tryd.prog.globals[2]?).map (·.type) = some 25 by kernel_rfl).symm.trans hts)
  obtain rfl := Option.some.inj ((show (Tryd.prog.globals[0]?).map (·.type) = some 105 by kernel_rfl).symm.trans htw)
  obtain ⟨ms, hms⟩ : ∃ ms, Tryd.prog.underlying 25 = some (.interface ms) := isIface_spec (by kernel_rfl)
  obtain ⟨t1, r1⟩ := RC_iface hms hds
  obtain ⟨t2, r2⟩ := RC_iface hms hdr
  have r4 : RC g0 W (Lib.pow10Tab.map fun z => D.int .u64 z) cp.toList := RC_ints (l := Lib.pow10Tab) (show Tryd.prog.underlying 135 = some (.array 20 119) by kernel_rfl) (show Tryd.prog.underlying 119 = some (.int .u64) by kernel_rfl) (by kernel_rfl) (by kernel_rfl) hdp
  have r0 : RC g0 W (kwS.map D.str) cw.toList := RC_strs (l := kwS) (show Tryd.prog.underlying 105 = some (.array 18 9) by kernel_rfl) (show Tryd.prog.underlying 9 = some .string by kernel_rfl) (by kernel_rfl) (by kernel_rfl) hdw
  refine ⟨σG (glK t1 t2 m), ⟨⟨rfl, ⟨_, rfl⟩, ⟨_, rfl⟩, rfl⟩, ⟨_, rfl⟩⟩, relG fun k c hk => ?_⟩
  unfold glK at hk
  split at hk
  · rename_i e; subst e
    obtain rfl := Option.some.inj hk
    obtain ⟨e, z, hh⟩ := var_heap hgw hvw
    exact ⟨_, e, z, hh, r0⟩
  split at hk
  · rename_i e; subst e
    obtain rfl := Option.some.inj hk
    obtain ⟨e, z, hh⟩ := var_heap hgs hvs
    exact ⟨_, e, z, hh, r1⟩
  split at hk
  · rename_i e; subst e
    obtain rfl := Option.some.inj hk
    obtain ⟨e, z, hh⟩ := var_heap hgr hvr
    exact ⟨_, e, z, hh, r2⟩
  split at hk
  · rename_i e; subst e
    obtain rfl := Option.some.inj hk
    obtain ⟨e, z, hh⟩ := var_heap hgp hvp
    exact ⟨_, e, z, hh, r4⟩
  split at hk
  · rename_i e; subst e
    obtain rfl := Option.some.inj hk
    obtain ⟨cs, hh, hs, _⟩ := hsh.1 1 #[.int .i64 0] 3 (of_decide_eq_true (by kernel_rfl)) (by kernel_rfl)
    have hs' : cs.size = 1 := hs
    have hm' : cs[0]? = some (.int .i64 m) := by
      unfold World.cell? at hm
      rw [hh] at hm
      simpa using hm
    obtain ⟨l⟩ := cs
    simp only [List.size_toArray] at hs'
    match l, hs' with
    | [v], _ =>
      simp only [List.getElem?_toArray, List.getElem?_cons_zero, Option.some.injEq] at hm'
      subst hm'
      exact ⟨_, _, _, hh, by simp only [RC, R]; exact ⟨_, _, rfl, ⟨rfl, rfl⟩, rfl⟩⟩
  · cases hk

def rangeS : ByteArray := ⟨#[118, 97, 108, 117, 101, 32, 111, 117, 116, 32, 111, 102, 32, 114, 97, 110, 103, 101]⟩
def syntaxS : ByteArray := ⟨#[105, 110, 118, 97, 108, 105, 100, 32, 115, 121, 110, 116, 97, 120]⟩

def litV : DataW Unit → Value
  | .lit (.int k n) => .int k n
  | .lit (.string bs) => .string ⟨bs.toArray⟩
  | _ => .nilIface
def aggV : DataW Unit → Array Value
  | .agg ds => (ds.map litV).toArray
  | _ => #[]
def setC (cs : Array Value) : Obj → Obj
  | .cells _ t frozen => .cells cs t frozen
  | o => o

noncomputable def low : Nat := (World.holding Tryd.prog default ⟨#[], #[], []⟩).heap.size

noncomputable def laidWorld (os : Os) : World :=
  let w0 := World.holding Tryd.prog os ⟨#[.cells #[.string rangeS] 133, .cells #[.string syntaxS] 133], #[], []⟩
  { w0 with heap := (((((w0.heap.modify 0 (setC (aggV Rows.laid_namesake_sign_words))).modify 4 (setC (aggV Rows.laid_internal_strconv_uint64pow10))).modify 5 (setC (aggV Rows.laid_math_bits_deBruijn32tab))).modify 6 (setC (aggV Rows.laid_math_bits_deBruijn64tab))).modify 3 (setC #[.iface 131 (.pointer (some ⟨low, 0, none⟩))])).modify 2 (setC #[.iface 131 (.pointer (some ⟨low + 1, 0, none⟩))]) }

theorem laidWorld_met (os : Os) (args : Array Value) : laidMetH Tryd.prog laidL ((laidWorld os).forCall (fun _ _ => 0) ⟨#[], args, []⟩).memory :=
  show laidMet Tryd.prog laidL _ from laidMet_of_run' 8 (by kernel_rfl) (by kernel_rfl)

theorem returns_shaped {H : Type} {enc : TypeId × Value → H} {a : Assume} {C : Checked} {os : Os} {f : FuncId} {fn : Func} {s : ChangeSpec} {conds : List PathCond} {apart fresh handsOn again : Bool} {X : World → Array Value → Prop}
    (hX : ∀ (w w' : World) (args : Array Value), w.heap = w'.heap → X w args → X w' args)
    (own : ownKnob C.prog.godebug = none) (started : os.Started) (noInit : C.prog.inits.idxOf? f = none) (hfn : C.prog.funcs[f]? = some fn)
    (witness : ∃ (w : World) (tape : Tape) (i : Input), w.os = os ∧ (w.forCall tape i).Shaped C.prog ∧ i.vars = [] ∧ Input.okWide C.prog (w.forCall tape i) .any w.heap.size f i ∧
      ((s.pre enc C.prog fn conds apart (w.forCall tape i).memory i.args ∧ X (w.forCall tape i).memory i.args) ∧ sizedMet enc C.prog fn (OpenSpec.ofChange s) apart (w.forCall tape i).memory i.args) ∧ a.holds C.prog (lone (Frame.enter C.prog f i.args .normal) [] (w.forCall tape i)))
    (contract : ∀ (W : World) (base : Nat) (args : Array Value) (ds gs : List (DataW H)) (before : List MemPlace), W.ShapedOpen C.prog →
      (∀ (j : Nat) t v, fn.params[j]? = some t → args[j]? = some v → Value.okWide C.prog W .any base t v) →
      DataW.Whole enc C.prog fn.params.toList s.vars apart W args.toList ds gs before →
      (DataW.weightsEach C.prog (fn.params.toList ++ s.plain.varTypes C.prog) (ds ++ gs)).all (· ≤ reachBytes) = true → X W args →
      Calls C.prog f args W fun e W' => ∃ v, e = .returned v ∧ s.post enc C.prog fn apart fresh handsOn again W args v W') :
    ReturnsInHanded a C os f .any (fun w args => (s.pre enc C.prog fn conds apart w args ∧ X w args) ∧ sizedMet enc C.prog fn (OpenSpec.ofChange s) apart w args) (s.post enc C.prog fn apart fresh handsOn again) := by
  refine returnsInHanded_of_calls own started noInit witness ?_
  intro w tape i _ hsh _ hok hpre _
  obtain ⟨_, _, _, fn', hfn', _, _, _, _, hval⟩ := hok
  obtain rfl : fn' = fn := Option.some.inj (hfn'.symm.trans hfn)
  obtain ⟨⟨⟨ds, gs, before, hw, _⟩, hx⟩, hz⟩ := hpre
  refine (contract (w.forCall tape i) w.heap.size i.args ds gs before hsh hval (DataW.Whole.of_heap (w' := w.forCall tape i) (by rfl) hw) (hz.weights hw) (hX _ _ _ (by rfl) hx)).mono ?_
  rintro e W' ⟨v, rfl, hp⟩
  exact ChangeSpec.post_blind hp

end Go.Proofs.YtijcddlahidhhaaDoor
