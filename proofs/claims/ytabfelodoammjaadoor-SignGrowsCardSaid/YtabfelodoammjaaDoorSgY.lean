/-
  Layer 5: the start: what the listed variables hold; a world that holds it.
-/
import Derived.Test.YtabfelodoammjaaDoorSgB
import Derived.Test.YtabfelodoammjaaDoorHlX
import Derived.Test.YtabfelodoammjaaDoorRows
import Derived.LaidLaws
import Derived.LaidHandle
set_option linter.unusedVariables false
set_option maxRecDepth 100000
namespace Go.Proofs.YtabfelodoammjaaDoor
open Go Go.Hl Go.RowKit

def laidL : List (String × DataW Unit) := [("math/bits.deBruijn32tab", Rows.laid_math_bits_deBruijn32tab), ("math/bits.deBruijn64tab", Rows.laid_math_bits_deBruijn64tab), ("internal/strconv.uint64pow10", Rows.laid_internal_strconv_uint64pow10), ("strconv.ErrRange", Rows.laid_strconv_ErrRange), ("strconv.ErrSyntax", Rows.laid_strconv_ErrSyntax), ("namesake/sign.words", Rows.laid_namesake_sign_words)]

def glK (t1 t2 : Nat) : Nat → Option (List D)
  | 0 => some (kwS.map D.str)
  | 1 => some [.iface t1 .undef]
  | 2 => some [.iface t2 .undef]
  | 4 => some (Lib.pow10Tab.map fun z => .int .u64 z)
  | _ => none

theorem start_of {W : World} (h : laidMet Tryd.prog laidL W) : ∃ σ, GK σ ∧ Rel Tryd.prog g0 σ W := by
  obtain ⟨ps, ⟨_, _, _, _, _, _, _, _, _, _, ⟨_, _, _, _, _, _, _, _, _, _, ⟨gp, tp, cp, fp, pp, qp, hgp, htp, hvp, hdp, ⟨gr, tr, cr, fr, pr, qr, hgr, htr, hvr, hdr, ⟨gs, ts, cs, fs, ps', qs, hgs, hts, hvs, hds, ⟨gw, tw, cw, fw, pw, qw, hgw, htw, hvw, hdw, _⟩, _⟩, _⟩, _⟩, _⟩, _⟩, _⟩ := h
  obtain rfl := Option.some.inj ((show Tryd.prog.globalNamed "internal/strconv.uint64pow10" = some 4 by kernel_rfl).symm.trans hgp)
  obtain rfl := Option.some.inj ((show Tryd.prog.globalNamed "strconv.ErrRange" = some 2 by kernel_rfl).symm.trans hgr)
  obtain rfl := Option.some.inj ((show Tryd.prog.globalNamed "strconv.ErrSyntax" = some 1 by kernel_rfl).symm.trans hgs)
  obtain rfl := Option.some.inj ((show Tryd.prog.globalNamed "namesake/sign.words" = some 0 by kernel_rfl).symm.trans hgw)
  obtain rfl := Option.some.inj ((show (Tryd.prog.globals[4]?).map (·.type) = some 78 by kernel_rfl).symm.trans htp)
  obtain rfl := Option.some.inj ((show (Tryd.prog.globals[2]?).map (·.type) = some 24 by kernel_rfl).symm.trans htr)
  obtain rfl := Option.some.inj ((show (Tryd.prog.globals[1]?).map (·.type) = some 24 by kernel_rfl).symm.trans hts)
  obtain rfl := Option.some.inj ((show (Tryd.prog.globals[0]?).map (·.type) = some 46 by kernel_rfl).symm.trans htw)
  obtain ⟨ms, hms⟩ : ∃ ms, Tryd.prog.underlying 24 = some (.interface ms) := isIface_spec (by kernel_rfl)
  obtain ⟨t1, r1⟩ := RC_iface hms hds
  obtain ⟨t2, r2⟩ := RC_iface hms hdr
  have r4 : RC g0 W (Lib.pow10Tab.map fun z => D.int .u64 z) cp.toList := RC_ints (l := Lib.pow10Tab) (show Tryd.prog.underlying 78 = some (.array 20 59) by kernel_rfl) (show Tryd.prog.underlying 59 = some (.int .u64) by kernel_rfl) (by kernel_rfl) (by kernel_rfl) hdp
  have r0 : RC g0 W (kwS.map D.str) cw.toList := RC_strs (l := kwS) (show Tryd.prog.underlying 46 = some (.array 18 9) by kernel_rfl) (show Tryd.prog.underlying 9 = some .string by kernel_rfl) (by kernel_rfl) (by kernel_rfl) hdw
  refine ⟨σG (glK t1 t2), ⟨rfl, ⟨_, rfl⟩, ⟨_, rfl⟩, rfl⟩, relG fun k c hk => ?_⟩
  match k, hk with
  | 0, hk =>
    obtain rfl := Option.some.inj hk
    obtain ⟨e, z, hh⟩ := var_heap hgw hvw
    exact ⟨_, e, z, hh, r0⟩
  | 1, hk =>
    obtain rfl := Option.some.inj hk
    obtain ⟨e, z, hh⟩ := var_heap hgs hvs
    exact ⟨_, e, z, hh, r1⟩
  | 2, hk =>
    obtain rfl := Option.some.inj hk
    obtain ⟨e, z, hh⟩ := var_heap hgr hvr
    exact ⟨_, e, z, hh, r2⟩
  | 3, hk => cases hk
  | 4, hk =>
    obtain rfl := Option.some.inj hk
    obtain ⟨e, z, hh⟩ := var_heap hgp hvp
    exact ⟨_, e, z, hh, r4⟩
  | _ + 5, hk => cases hk

/-! ### A world that holds it -/

def rangeS : ByteArray := ⟨#[118, 97, 108, 117, 101, 32, 111, 117, 116, 32, 111, 102, 32, 114, 97, 110, 103, 101]⟩
def syntaxS : ByteArray := ⟨#[105, 110, 118, 97, 108, 105, 100, 32, 115, 121, 110, 116, 97, 120]⟩

def litV : DataW Unit → Value
  | .lit (.int k n) => .int k n
  | .lit (.string bs) => .string ⟨bs.toArray⟩
  | _ => .nilIface
def aggV : DataW Unit → Array Value
  | .agg ds => (ds.map litV).toArray
  | _ => #[]
def setC (cs : Array Value) : Obj → Obj
  | .cells _ t frozen => .cells cs t frozen
  | o => o

noncomputable def low : Nat := (World.holding Tryd.prog default ⟨#[], #[], []⟩).heap.size

noncomputable def laidWorld (os : Os) : World :=
  let w0 := World.holding Tryd.prog os ⟨#[.cells #[.string rangeS] 75, .cells #[.string syntaxS] 75], #[], []⟩
  { w0 with heap := (((((w0.heap.modify 0 (setC (aggV Rows.laid_namesake_sign_words))).modify 4 (setC (aggV Rows.laid_internal_strconv_uint64pow10))).modify 5 (setC (aggV Rows.laid_math_bits_deBruijn32tab))).modify 6 (setC (aggV Rows.laid_math_bits_deBruijn64tab))).modify 2 (setC #[.iface 73 (.pointer (some ⟨low, 0, none⟩))])).modify 1 (setC #[.iface 73 (.pointer (some ⟨low + 1, 0, none⟩))]) }

theorem laidWorld_met (os : Os) (args : Array Value) : laidMetH Tryd.prog laidL ((laidWorld os).forCall (fun _ _ => 0) ⟨#[], args, []⟩).memory :=
  show laidMet Tryd.prog laidL _ from laidMet_of_run' 8 (by kernel_rfl) (by kernel_rfl)

end Go.Proofs.YtabfelodoammjaaDoor
