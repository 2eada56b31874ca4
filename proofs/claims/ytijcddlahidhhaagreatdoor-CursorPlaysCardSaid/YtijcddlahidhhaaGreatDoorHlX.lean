/-
  A start in which the package's variables hold what the row lists.
-/
import Derived.Test.YtijcddlahidhhaaGreatDoorHlS
import Derived.LaidLaws
import Derived.Test.YtijcddlahidhhaaGreatDoorSgD
import Derived.Handed
import Derived.Shelf.Vars
import Derived.ProofKit
import Derived.SizedLaws
import Derived.Carry
import Derived.OpenShut
import Derived.ChangeMaps5
import Derived.SevenTiedAt
import Derived.Test.YtijcddlahidhhaaGreatDoorRows
import Derived.LaidHandle
set_option linter.unusedSectionVars false
set_option linter.unusedVariables false
namespace Go.Hl
open Go Go.RowKit

def σG (gl : Nat → Option (List D)) : St := ⟨fun _ => none, gl, 0⟩

theorem RC_of {g : G} {w : World} : ∀ {ds : List D} {vs : List Value}, vs.length = ds.length → (∀ (i : Nat) d v, ds[i]? = some d → vs[i]? = some v → v.oneCell' = true ∧ R g w d v) → RC g w ds vs
  | [], [], _, _ => by simp only [RC]
  | [], _ :: _, h, _ => by simp at h
  | _ :: _, [], h, _ => by simp at h
  | d :: ds, v :: vs, h, k => by
    simp only [RC]
    exact ⟨v, vs, rfl, k 0 d v rfl rfl, RC_of (by simpa using h) fun i d' v' h1 h2 => k (i + 1) d' v' (by simpa using h1) (by simpa using h2)⟩

theorem relG {P : Program} {W : World} {gl : Nat → Option (List D)} (h : ∀ k cs, gl k = some cs → ∃ c e z, W.heap[k]? = some (.cells c e z) ∧ RC g0 W cs c.toList) : Rel P g0 (σG gl) W where
  gw := (rel0 P W).gw
  next := rfl
  obj := fun _ _ h => by cases h
  glob := fun k cs hk => ⟨h k cs hk, fun _ _ h => by cases h⟩

theorem calls_ofG {P : Program} {f : Nat} {ds : List D} {vs : List Value} {W : World} {σ : St} {Q : D → St → Prop} (hb : hasBody P f = true) (hrel : Rel P g0 σ W) (h : HCalls P f ds σ Q) (hr : RL g0 W ds vs) :
    Calls P f vs.toArray W fun e W' => ∃ v d g' σ', e = .returned v ∧ Below W.heap.size W W' ∧ R g' W' d v ∧ Q d σ' := by
  have h1 := h g0 W vs hrel hr
  rw [callFunc_has hb] at h1
  refine callsIn_wide.1 (CallsIn.mono h1 ?_)
  intro e W' he
  cases e <;> simp only [HRet] at he
  obtain ⟨d, g', σ', hE, hR, hd, hq⟩ := he
  exact ⟨_, d, g', σ', rfl, ⟨hE.out.os, hE.out.tape, hE.out.output, hE.size, fun k hk => hE.still k hk (fun id h ha => by cases ha)⟩, hd, hq⟩

section
variable {H : Type} {enc : TypeId × Value → H} {P : Program} {W : World} {sp : Nat → Bool} {held : Bool}

theorem var_heap {n : String} {k : Nat} {cs : Array Value} (hg : P.globalNamed n = some k) (hv : W.var? P n = some cs) : ∃ e z, W.heap[k]? = some (.cells cs e z) := by
  unfold World.var? at hv
  simp only [hg, Option.bind_some] at hv
  split at hv
  · rename_i c e z hh
    injection hv with hv
    subst hv
    exact ⟨e, z, hh⟩
  · cases hv

theorem trod_array1 {t e n : Nat} (hu : P.underlying t = some (.array n e)) (hc : P.cellsOf e = 1) (ht : P.cellsOf t = n) {fuel : Nat} {cs : List Value} {ds : List (DataW H)} {ps : List MemPlace} (h : DataW.trod enc P W 0 sp held fuel t cs = some (.agg ds, ps)) :
    cs.length = n ∧ ds.length = n ∧ ∃ fuel', ∀ (i : Nat) v d, cs[i]? = some v → ds[i]? = some d → ∃ ps, DataW.trod enc P W 0 sp held fuel' e [v] = some (d, ps) := by
  cases fuel with
  | zero => simp [DataW.trod] at h
  | succ fuel =>
    unfold DataW.trod at h
    rw [hu] at h
    simp only at h
    split at h; rotate_left; · cases h
    rename_i hl
    obtain ⟨xs, hx, he⟩ := Option.map_eq_some_iff.1 h
    obtain ⟨l2, h2⟩ := opt_mapM hx
    simp only [Prod.mk.injEq, DataW.agg.injEq] at he
    obtain ⟨rfl, _⟩ := he
    simp only [List.length_range] at l2
    rw [ht] at hl
    refine ⟨hl, by simp [l2], fuel, fun i v d hv hd => ?_⟩
    have hi : i < n := by rw [← hl]; exact (List.getElem?_eq_some_iff.1 hv).1
    obtain ⟨y, hy, hd'⟩ := h2 i i (by simp [hi])
    simp only [List.getElem?_map, hy, Option.map_some, Option.some.injEq] at hd
    subst hd
    rw [hc, Nat.mul_one] at hd'
    have e1 : (cs.drop i).take 1 = [v] := by
      obtain ⟨h0, h1⟩ := List.getElem?_eq_some_iff.1 hv
      rw [List.drop_eq_getElem_cons h0, h1]
      rfl
    rw [e1] at hd'
    exact ⟨y.2, hd'⟩

theorem RC_strs {t e n : Nat} (hu : P.underlying t = some (.array n e)) (hs : P.underlying e = some .string) (hc : P.cellsOf e = 1) (ht : P.cellsOf t = n) {fuel : Nat} {cs : List Value} {l : List ByteArray} {ps : List MemPlace}
    (h : DataW.trod enc P W 0 sp held fuel t cs = some (.agg (l.map fun s => .lit (.string s.data.toList)), ps)) : RC g0 W (l.map D.str) cs := by
  obtain ⟨h1, h2, fuel', h3⟩ := trod_array1 hu hc ht h
  rw [List.length_map] at h2
  refine RC_of (by rw [List.length_map, h1, h2]) fun i d v hd hv => ?_
  obtain ⟨s, hs', rfl⟩ : ∃ s, l[i]? = some s ∧ D.str s = d := by simpa using hd
  obtain ⟨ps', h4⟩ := h3 i v (.lit (.string s.data.toList)) hv (by simp only [List.getElem?_map, hs', Option.map_some])
  cases fuel' with
  | zero => simp [DataW.trod] at h4
  | succ fuel' =>
    unfold DataW.trod at h4
    rw [hs] at h4
    cases v <;> simp at h4
    rename_i s2
    obtain ⟨_, he, _⟩ := h4
    have : s2 = s := by
      cases s2
      cases s
      simp only at he
      rw [he]
    subst this
    simp only [R]
    exact ⟨rfl, trivial⟩

theorem RC_ints {t e n : Nat} {k : IntKind} (hu : P.underlying t = some (.array n e)) (hs : P.underlying e = some (.int k)) (hc : P.cellsOf e = 1) (ht : P.cellsOf t = n) {fuel : Nat} {cs : List Value} {l : List Int} {ps : List MemPlace}
    (h : DataW.trod enc P W 0 sp held fuel t cs = some (.agg (l.map fun z => .lit (.int k z)), ps)) : RC g0 W (l.map fun z => D.int k z) cs := by
  obtain ⟨h1, h2, fuel', h3⟩ := trod_array1 hu hc ht h
  rw [List.length_map] at h2
  refine RC_of (by rw [List.length_map, h1, h2]) fun i d v hd hv => ?_
  obtain ⟨z, hz, rfl⟩ : ∃ z, l[i]? = some z ∧ D.int k z = d := by simpa using hd
  obtain ⟨ps', h4⟩ := h3 i v (.lit (.int k z)) hv (by simp only [List.getElem?_map, hz, Option.map_some])
  cases fuel' with
  | zero => simp [DataW.trod] at h4
  | succ fuel' =>
    unfold DataW.trod at h4
    rw [hs] at h4
    cases v <;> simp at h4
    obtain ⟨⟨rfl, _⟩, rfl, _⟩ := h4
    simp only [R]
    exact ⟨rfl, trivial⟩

theorem RC_iface {t : Nat} {ms : Array (String × TypeId)} (hu : P.underlying t = some (.interface ms)) {fuel : Nat} {cs : List Value} {name : String} {d : DataW H} {ps : List MemPlace}
    (h : DataW.trod enc P W 0 sp false fuel t cs = some (.iface name d, ps)) : ∃ u, RC g0 W [.iface u .undef] cs := by
  obtain ⟨_, u, v, rfl, _, _⟩ := iface_of_trod hu h
  refine ⟨u, RC_of rfl fun i d v' hd hv => ?_⟩
  cases i with
  | zero =>
    simp only [List.getElem?_cons_zero, Option.some.injEq] at hd hv
    subst hd
    subst hv
    simp only [R]
    exact ⟨rfl, v, rfl, trivial⟩
  | succ i => simp at hd

end

end Go.Hl
set_option linter.unusedVariables false
set_option maxRecDepth 100000
namespace Go.Proofs.YtijcddlahidhhaaGreatDoor
open Go Go.Hl Go.RowKit Go.ChangeShapes Go.WideShapes Go.ChangeAt

def laidL : List (String × DataW Unit) := [("math/bits.deBruijn32tab", Rows.laid_math_bits_deBruijn32tab), ("math/bits.deBruijn64tab", Rows.laid_math_bits_deBruijn64tab), ("internal/strconv.uint64pow10", Rows.laid_internal_strconv_uint64pow10), ("strconv.ErrRange", Rows.laid_strconv_ErrRange), ("strconv.ErrSyntax", Rows.laid_strconv_ErrSyntax), ("namesake/sign.words", Rows.laid_namesake_sign_words)]

def glK (t1 t2 : Nat) (m : Int) (k : Nat) : Option (List D) :=
  if k = 0 then some (kwS.map D.str)
  else if k = 2 then some [.iface t1 .undef]
  else if k = 3 then some [.iface t2 .undef]
  else if k = 4 then some (Lib.pow10Tab.map fun z => .int .u64 z)
  else if k = 1 then some [.int .i64 m]
  else none

theorem start_of {W : World} (h : laidMet Tryz.prog laidL W) (hsh : W.ShapedOpen Tryz.prog) : ∃ σ, GM σ ∧ Rel Tryz.prog g0 σ W := by
  obtain ⟨m, hm⟩ := Go.Proofs.cell_of_shapedOpen_int (g := 1) (zero := #[.int .i64 0]) (t := 3) hsh (of_decide_eq_true (by kernel_rfl)) (by kernel_rfl) rfl (by kernel_rfl) (by kernel_rfl) Tryz.underlying3
  obtain ⟨ps, ⟨_, _, _, _, _, _, _, _, _, _, ⟨_, _, _, _, _, _, _, _, _, _, ⟨gp, tp, cp, fp, pp, qp, hgp, htp, hvp, hdp, ⟨gr, tr, cr, fr, pr, qr, hgr, htr, hvr, hdr, ⟨gs, ts, cs, fs, ps', qs, hgs, hts, hvs, hds, ⟨gw, tw, cw, fw, pw, qw, hgw, htw, hvw, hdw, _⟩, _⟩, _⟩, _⟩, _⟩, _⟩, _⟩ := h
  obtain rfl := Option.some.inj ((show Tryz.prog.globalNamed "internal/strconv.uint64pow10" = some 4 by kernel_rfl).symm.trans hgp)
  obtain rfl := Option.some.inj ((show Tryz.prog.globalNamed "strconv.ErrRange" = some 3 by kernel_rfl).symm.trans hgr)
  obtain rfl := Option.some.inj ((show Tryz.prog.globalNamed "strconv.ErrSyntax" = some 2 by kernel_rfl).symm.trans hgs)
  obtain rfl := Option.some.inj ((show Tryz.prog.globalNamed "namesake/sign.words" = some 0 by kernel_rfl).symm.trans hgw)
  obtain rfl := Option.some.inj ((show (Tryz.prog.globals[4]?).map (·.type) = some 150 by kernel_rfl).symm.trans htp)
  obtain rfl := Option.some.inj ((show (Tryz.prog.globals[3]?).map (·.type) = some 26 by kernel_rfl).symm.trans htr)
  obtain rfl := Option.some.inj ((show (Tryz.prog.globals[2]?).map (·.type) = some 26 by kernel_rfl).symm.trans hts)
  obtain rfl := Option.some.inj ((show (Tryz.prog.globals[0]?).map (·.type) = some 117 by kernel_rfl).symm.trans htw)
  obtain ⟨ms, hms⟩ : ∃ ms, Tryz.prog.underlying 26 = some (.interface ms) := isIface_spec (by kernel_rfl)
  obtain ⟨t1, r1⟩ := RC_iface hms hds
  obtain ⟨t2, r2⟩ := RC_iface hms hdr
  have r4 : RC g0 W (Lib.pow10Tab.map fun z => D.int .u64 z) cp.toList := RC_ints (l := Lib.pow10Tab) (show Tryz.prog.underlying 150 = some (.array 20 133) by kernel_rfl) (show Tryz.prog.underlying 133 = some (.int .u64) by kernel_rfl) (by kernel_rfl) (by kernel_rfl) hdp
  have r0 : RC g0 W (kwS.map D.str) cw.toList := RC_strs (l := kwS) (show Tryz.prog.underlying 117 = some (.array 18 9) by kernel_rfl) (show Tryz.prog.underlying 9 = some .string by kernel_rfl) (by kernel_rfl) (by kernel_rfl) hdw
  refine ⟨σG (glK t1 t2 m), ⟨⟨rfl, ⟨_, rfl⟩, ⟨_, rfl⟩, rfl⟩, ⟨_, rfl⟩⟩, relG fun k c hk => ?_⟩
  unfold glK at hk
  split at hk
  · rename_i e; subst e
    obtain rfl := Option.some.inj hk
    obtain ⟨e, z, hh⟩ := var_heap hgw hvw
    exact ⟨_, e, z, hh, r0⟩
  split at hk
  · rename_i e; subst e
    obtain rfl := Option.some.inj hk
    obtain ⟨e, z, hh⟩ := var_heap hgs hvs
    exact ⟨_, e, z, hh, r1⟩
  split at hk
  · rename_i e; subst e
    obtain rfl := Option.some.inj hk
    obtain ⟨e, z, hh⟩ := var_heap hgr hvr
    exact ⟨_, e, z, hh, r2⟩
  split at hk
  · rename_i e; subst e
    obtain rfl := Option.some.inj hk
    obtain ⟨e, z, hh⟩ := var_heap hgp hvp
    exact ⟨_, e, z, hh, r4⟩
  split at hk
  · rename_i e; subst e
    obtain rfl := Option.some.inj hk
    obtain ⟨cs, hh, hs, _⟩ := hsh.1 1 #[.int .i64 0] 3 (of_decide_eq_true (by kernel_rfl)) (by kernel_rfl)
    have hs' : cs.size = 1 := hs
    have hm' : cs[0]? = some (.int .i64 m) := by
      unfold World.cell? at hm
      rw [hh] at hm
      simpa using hm
    obtain ⟨l⟩ := cs
    simp only [List.size_toArray] at hs'
    match l, hs' with
    | [v], _ =>
      simp only [List.getElem?_toArray, List.getElem?_cons_zero, Option.some.injEq] at hm'
      subst hm'
      exact ⟨_, _, _, hh, by simp only [RC, R]; exact ⟨_, _, rfl, ⟨rfl, rfl⟩, rfl⟩⟩
  · cases hk

def rangeS : ByteArray := ⟨#[118, 97, 108, 117, 101, 32, 111, 117, 116, 32, 111, 102, 32, 114, 97, 110, 103, 101]⟩
def syntaxS : ByteArray := ⟨#[105, 110, 118, 97, 108, 105, 100, 32, 115, 121, 110, 116, 97, 120]⟩

def litV : DataW Unit → Value
  | .lit (.int k n) => .int k n
  | .lit (.string bs) => .string ⟨bs.toArray⟩
  | _ => .nilIface
def aggV : DataW Unit → Array Value
  | .agg ds => (ds.map litV).toArray
  | _ => #[]
def setC (cs : Array Value) : Obj → Obj
  | .cells _ t frozen => .cells cs t frozen
  | o => o

noncomputable def low : Nat := (World.holding Tryz.prog default ⟨#[], #[], []⟩).heap.size

noncomputable def laidWorld (os : Os) : World :=
  let w0 := World.holding Tryz.prog os ⟨#[.cells #[.string rangeS] 148, .cells #[.string syntaxS] 148], #[], []⟩
  { w0 with heap := (((((w0.heap.modify 0 (setC (aggV Rows.laid_namesake_sign_words))).modify 4 (setC (aggV Rows.laid_internal_strconv_uint64pow10))).modify 5 (setC (aggV Rows.laid_math_bits_deBruijn32tab))).modify 6 (setC (aggV Rows.laid_math_bits_deBruijn64tab))).modify 3 (setC #[.iface 146 (.pointer (some ⟨low, 0, none⟩))])).modify 2 (setC #[.iface 146 (.pointer (some ⟨low + 1, 0, none⟩))]) }

theorem laidWorld_met (os : Os) (args : Array Value) : laidMetH Tryz.prog laidL ((laidWorld os).forCall (fun _ _ => 0) ⟨#[], args, []⟩).memory :=
  show laidMet Tryz.prog laidL _ from laidMet_of_run' 8 (by kernel_rfl) (by kernel_rfl)

theorem returns_shaped {H : Type} {enc : TypeId × Value → H} {a : Assume} {C : Checked} {os : Os} {f : FuncId} {fn : Func} {s : ChangeSpec} {conds : List PathCond} {apart fresh handsOn again : Bool} {X : World → Array Value → Prop}
    (hX : ∀ (w w' : World) (args : Array Value), w.heap = w'.heap → X w args → X w' args)
    (own : ownKnob C.prog.godebug = none) (started : os.Started) (noInit : C.prog.inits.idxOf? f = none) (hfn : C.prog.funcs[f]? = some fn)
    (witness : ∃ (w : World) (tape : Tape) (i : Input), w.os = os ∧ (w.forCall tape i).Shaped C.prog ∧ i.vars = [] ∧ Input.okWide C.prog (w.forCall tape i) .any w.heap.size f i ∧
      ((s.pre enc C.prog fn conds apart (w.forCall tape i).memory i.args ∧ X (w.forCall tape i).memory i.args) ∧ sizedMet enc C.prog fn (OpenSpec.ofChange s) apart (w.forCall tape i).memory i.args) ∧ a.holds C.prog (lone (Frame.enter C.prog f i.args .normal) [] (w.forCall tape i)))
    (contract : ∀ (W : World) (base : Nat) (args : Array Value) (ds gs : List (DataW H)) (before : List MemPlace), W.ShapedOpen C.prog →
      (∀ (j : Nat) t v, fn.params[j]? = some t → args[j]? = some v → Value.okWide C.prog W .any base t v) →
      DataW.Whole enc C.prog fn.params.toList s.vars apart W args.toList ds gs before →
      (DataW.weightsEach C.prog (fn.params.toList ++ s.plain.varTypes C.prog) (ds ++ gs)).all (· ≤ reachBytes) = true → X W args →
      Calls C.prog f args W fun e W' => ∃ v, e = .returned v ∧ s.post enc C.prog fn apart fresh handsOn again W args v W') :
    ReturnsInHanded a C os f .any (fun w args => (s.pre enc C.prog fn conds apart w args ∧ X w args) ∧ sizedMet enc C.prog fn (OpenSpec.ofChange s) apart w args) (s.post enc C.prog fn apart fresh handsOn again) := by
  refine returnsInHanded_of_calls own started noInit witness ?_
  intro w tape i _ hsh _ hok hpre _
  obtain ⟨_, _, _, fn', hfn', _, _, _, _, hval⟩ := hok
  obtain rfl : fn' = fn := Option.some.inj (hfn'.symm.trans hfn)
  obtain ⟨⟨⟨ds, gs, before, hw, _⟩, hx⟩, hz⟩ := hpre
  refine (contract (w.forCall tape i) w.heap.size i.args ds gs before hsh hval (DataW.Whole.of_heap (w' := w.forCall tape i) (by rfl) hw) (hz.weights hw) (hX _ _ _ (by rfl) hx)).mono ?_
  rintro e W' ⟨v, rfl, hp⟩
  exact ChangeSpec.post_blind hp

end Go.Proofs.YtijcddlahidhhaaGreatDoor
