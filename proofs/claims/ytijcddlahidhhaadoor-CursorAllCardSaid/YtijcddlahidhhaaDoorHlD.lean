/-
  What the plain operations compute, they compute on the machine.
-/
import Derived.Test.YtijcddlahidhhaaDoorHlA
import Derived.Laws.Strings
import Derived.Lib.Builder
import Derived.Lib.UnsafeStr
import Derived.Laws.IdiomStrings
import Derived.Laws.StructEq
set_option linter.unusedSectionVars false
set_option linter.unusedVariables false
namespace Go.Hl
open Go

def cmpElems (P : Program) (t sz : Nat) (z : List (List D)) (len : Nat) : Bool :=
  match P.underlying t with
  | some (.slice e) => tyCells P e == some sz && decide (0 < sz) && decide (len * sz ≤ 16777216) && z.length == len &&
    (match (P.info? e).bind (·.zero) with
      | some v => v.cells.size == sz && z.all fun c => cmpVs c v.cells.toList
      | none => false)
  | _ => false
def cmpAppend (P : Program) (t sz bytes : Nat) : Bool :=
  match P.underlying t with
  | some (.slice e) => tyCells P e == some sz && tyBytes P e == some bytes && decide (0 < sz) &&
    (match (P.info? e).bind (·.zero) with
      | some v => v.cells.size == sz
      | none => false)
  | _ => false
def isAppend : Callee → Bool
  | .builtin .append => true
  | _ => false

def isSliceE (P : Program) (t e : TypeId) : Bool :=
  match P.underlying t with
  | some (.slice e') => e' == e
  | _ => false
def isUsd : Callee → Bool
  | .builtin .unsafeSliceData => true
  | _ => false
def isUstr : Callee → Bool
  | .builtin .unsafeString => true
  | _ => false

def cmpHS (P : Program) (o : Oper) (h : HO) : Bool :=
  match h with
  | .alloc z => (match o.op with
    | .alloc t => cmpZero P t z
    | _ => false)
  | .box x' => (match o.op with
    | .box _ x => cmpX x x'
    | _ => false)
  | .bslice sz z ps => (match o.op with
    | .buildSlice t len parts => cmpElems P t sz z len && cmpParts2 parts.toList ps
    | _ => false)
  | .bvec sz z ps => (match o.op with
    | .buildSlice t len parts => cmpElems P t sz z len && cmpParts2 parts.toList ps
    | _ => false)
  | .vslice sz x' hi' => (match o.op with
    | .slice t x none (some hi) none => isSliceOf P t sz && cmpX x x' && cmpX hi hi'
    | _ => false)
  | .vappend sz bytes x' y' => (match o.op with
    | .call c => isAppend c.callee && (match c.argTypes.toList, c.args.toList with
      | [t, t'], [x, y] => cmpAppend P t sz bytes && (isSliceTy P t' || isStr P t') && cmpX x x' && cmpX y y'
      | _, _ => false)
    | _ => false)
  | .build z ps => (match o.op with
    | .build t parts => (match P.underlying t with
      | some (.struct fs) => (fs.toList.all fun f => (tyCells P f.type).isSome) && cmpZero P t z && cmpParts P fs parts.toList ps
      | some (.array _ e) => (match tyCells P e with
        | some sz => cmpZero P t z && cmpPartsA sz parts.toList ps
        | none => false)
      | _ => false)
    | _ => false)
  | .store sz a' v' => (match o.op with
    | .store t a v => tyCells P t == some sz && cmpX a a' && cmpX v v'
    | _ => false)
  | .append e sz bytes x' y' => (match o.op with
    | .call c => isAppend c.callee && (match c.argTypes.toList, c.args.toList with
      | [t, t'], [x, y] => cmpAppend P t sz bytes && isSliceE P t e && (isSliceTy P t' || isStr P t') && cmpX x x' && cmpX y y'
      | _, _ => false)
    | _ => false)
  | .allocT t' z => (match o.op with
    | .alloc t => t == t' && cmpZero P t z
    | _ => false)
  | .usd x' => (match o.op with
    | .call c => isUsd c.callee && (match c.args.toList with
      | [x] => (match P.underlying o.type with | some (.pointer _) => true | _ => false) && cmpX x x'
      | _ => false)
    | _ => false)
  | .ustr e x' n' => (match o.op with
    | .call c => isUstr c.callee && (match c.argTypes.toList, c.args.toList with
      | [t, _], [x, n] => (match P.underlying t with | some (.pointer e') => e' == e && P.cellsOf e == 1 | _ => false) && cmpX x x' && cmpX n n'
      | _, _ => false)
    | _ => false)
  | _ => false

def cmpCall (o : Oper) (f' : X) (args' : List X) : Bool :=
  match o.op with
  | .call c => (match c.callee with
    | .value f => cmpX f f' && cmpXs c.args.toList args'
    | _ => false)
  | _ => false

def cmpGuard (ops : Array Oper) (o : Oper) (h : HI) : Bool :=
  match o.guard, h.guard with
  | none, none => true
  | some (j, want), some (t, b) => want == b && ((ops[j]?).bind (·.dst)) == some t
  | _, _ => false

def cmpOp (P : Program) (nt : Nat) (ops : Array Oper) (o : Oper) (h : HI) : Bool :=
  o.dst == h.dst && (match h.dst with | some t => decide (t < nt) | none => true) && cmpGuard ops o h &&
    (match h.op with | .call f args => cmpCall o f args | _ => cmpHV P o h.op || cmpHS P o h.op)

def isKill : HO → Bool
  | .kill _ => true
  | _ => false

def cmpOps (P : Program) (nt : Nat) (ops : Array Oper) : List Oper → List HI → Bool
  | [], [] => true
  | os, h :: hs => if isKill h.op then h.dst.isNone && h.guard.isNone && cmpOps P nt ops os hs else
    match os with
    | o :: os' => cmpOp P nt ops o h && cmpOps P nt ops os' hs
    | [] => false
  | _ :: _, [] => false

def edgeBits (anc : Nat → Nat) (i : Nat) : List Edge → Nat
  | [] => 0
  | e :: es => if Region.binds .any e then ((1 <<< e.on) ||| anc e.on) ||| edgeBits anc i es else edgeBits anc i es

def ancOf (D : List DI) (j : Nat) : Nat := ((D[j]?).map (·.anc)).getD 0

def effsFrom : Nat → List DI → List Nat
  | _, [] => []
  | i, d :: D => if d.eff then i :: effsFrom (i + 1) D else effsFrom (i + 1) D

def chained (D : List DI) : List Nat → Bool
  | a :: b :: r => (ancOf D b).testBit a && chained D (b :: r)
  | _ => true

def laterAll (i t : Nat) : Nat → List DI → Bool
  | _, [] => true
  | j, d :: D => (!(d.dst == some t) || j == i || d.anc.testBit i) && laterAll i t (j + 1) D

def useOk (nt : Nat) (D : List DI) (i anc : Nat) (u : Nat × Nat) : Bool :=
  if u.2 < nt then u.1 == u.2 && laterAll i u.1 0 D
  else ((D[u.2 - nt]?).map (·.dst)) == some (some u.1) && anc.testBit (u.2 - nt)

def dstsOk : List (Option Nat) → Bool
  | [] => true
  | d :: ds => (match d with | some t => !ds.contains (some t) | none => true) && dstsOk ds

def hiOk (D : List DI) (i : Nat) : Nat → List Nat → Bool
  | _, [] => true
  | 0, e :: es => (ancOf D e).testBit i && hiOk D i 0 es
  | h + 1, _ :: es => hiOk D i h es

def loOk (anc : Nat) : Nat → List Nat → Bool
  | 0, _ => true
  | _ + 1, [] => false
  | l + 1, e :: es => anc.testBit e && loOk anc l es

def cmpD1 (P : Program) (nt : Nat) (ops : Array Oper) (D : List DI) (i : Nat) (o : Oper) (d : DI) : Bool :=
  cmpOp P nt ops o ⟨d.dst, d.guard, d.op⟩ && !isKill d.op &&
    (o.after.toList.all fun e => !Region.binds .any e || decide (e.on < i)) && edgeBits (ancOf D) i o.after.toList == d.anc &&
    (d.uses.all (useOk nt D i d.anc)) && (d.eff || (loOk d.anc d.lo (effsFrom 0 D) && hiOk D i d.hi (effsFrom 0 D)))

def cmpDs (P : Program) (nt : Nat) (ops : Array Oper) (D : List DI) : Nat → List Oper → List DI → Bool
  | _, [], [] => true
  | i, o :: os, d :: ds => cmpD1 P nt ops D i o d && cmpDs P nt ops D (i + 1) os ds
  | _, _, _ => false

def cmpDraw (P : Program) (nt : Nat) (ops : Array Oper) (D : List DI) : Bool :=
  P.follows .mixedOrders && cmpDs P nt ops D 0 ops.toList D && dstsOk (D.map (·.dst))

def cmpC (P : Program) (nt : Nat) : Code → HC → Bool
  | .skip, .skip => true
  | .ret, .ret => true
  | .refuse _, .refuse => true
  | .exit i, .exit j => i == j
  | .seq a b, .seq a' b' => cmpC P nt a a' && cmpC P nt b b'
  | .cond x a b, .cond x' a' b' => cmpX x x' && cmpC P nt a a' && cmpC P nt b b'
  | .block i c, .block j c' => i == j && cmpC P nt c c'
  | .loop c, .loop c' => cmpC P nt c c'
  | .region _ ops false, .ops l => cmpOps P nt ops ops.toList l
  | .region _ ops true, .draw l => cmpDraw P nt ops l
  | .rangeFunc f ps asg body, .range f' ps' asg' body' => cmpX f f' && decide (ps.toList = ps') && cmpC P nt asg asg' && cmpC P nt body body'
  | _, _ => false

def RSt (P : Program) (nt : Nat) : LSt → Loop → Prop
  | .ready, r => r.state = .ready
  | .busy, r => r.state = .busy
  | .done j, r => r.state = .done ∧ ∃ c, r.pending = some c ∧ cmpC P nt c j = true

def RO (P : Program) (g : G) (w : World) (id : Nat) : Ob → Prop
  | .bx t cs => ∃ b c e, g.at_ id = some (.box b) ∧ w.heap[b]? = some (.cells c e (0, 0)) ∧ RC g w cs c.toList ∧ ∀ t', t = some t' → e = t'
  | .tok e n => (∃ b f, g.at_ id = some (.arr b f n e) ∧ 0 < n) ∨ (g.at_ id = some (.full n e true) ∧ n = 0)
  | .tokF e n => g.at_ id = some (.full n e false)
  | .vec k sz xs => ∃ b off cap c e, g.at_ id = some (.vec b off xs.length cap k) ∧ w.heap[b]? = some (.cells c e (0, 0)) ∧ off + cap * sz ≤ c.size ∧ xs.length ≤ cap ∧
      (∀ x ∈ xs, x.length = sz) ∧ RC g w xs.flatten ((c.toList.drop off).take (xs.length * sz))
  | .loop nt env ps asg body st => ∃ l r, g.at_ id = some (.loop l) ∧ w.heap[l]? = some (.loop r) ∧ r.params.toList = ps ∧
      cmpC P nt r.assign asg = true ∧ cmpC P nt r.body body = true ∧ r.tmps.size = nt ∧ ER g w env r.tmps ∧ (st matches .ready → r.pending = none) ∧ RSt P nt st r

structure GL (g : G) (w : World) (cs : List D) (k : Nat) : Prop where
  cells : ∃ c e z, w.heap[k]? = some (.cells c e z) ∧ RC g w cs c.toList
  free : ∀ id h, g.at_ id = some h → h.block ≠ some k

structure Rel (P : Program) (g : G) (σ : St) (w : World) : Prop where
  gw : GW g w
  next : σ.next = g.next
  obj : ∀ id o, σ.obj id = some o → RO P g w id o
  glob : ∀ k cs, σ.glob k = some cs → GL g w cs k

section
variable {P : Program} {g : G} {σ : St} {w : World}

theorem cell_of_heap {b o : Nat} {c : Array Value} {e : TypeId} {z : Nat × Nat} {v : Value} (hb : w.heap[b]? = some (.cells c e z)) (hc : c[o]? = some v) :
    w.cell? ⟨b, o, none⟩ = some v := by
  simp [World.cell?, hb, hc]

theorem Imm.cell {b o : Nat} {v : Value} (h : Imm g w b o v) : w.cell? ⟨b, o, none⟩ = some v := by
  obtain ⟨⟨c, e, z, hb, hc⟩, _⟩ := h
  exact cell_of_heap hb hc

theorem RM.get : ∀ {cs : List D} {b o i : Nat} {d : D}, RM g w cs b o → cs[i]? = some d → ∃ u, Imm g w b (o + i) u ∧ u.oneCell' = true ∧ R g w d u
  | [], b, o, i, d, h, hi => by simp at hi
  | c :: cs, b, o, 0, d, h, hi => by
    simp only [RM] at h
    simp at hi
    subst hi
    exact h.1
  | c :: cs, b, o, i + 1, d, h, hi => by
    simp only [RM] at h
    simp at hi
    have := RM.get h.2 hi
    rwa [show o + 1 + i = o + (i + 1) by omega] at this

theorem RC.get : ∀ {cs : List D} {vs : List Value} {i : Nat} {d : D}, RC g w cs vs → cs[i]? = some d → ∃ u, vs[i]? = some u ∧ u.oneCell' = true ∧ R g w d u
  | [], vs, i, d, h, hi => by simp at hi
  | c :: cs, vs, 0, d, h, hi => by
    simp only [RC] at h
    obtain ⟨u, us, rfl, hu, _⟩ := h
    simp at hi
    subst hi
    exact ⟨u, rfl, hu⟩
  | c :: cs, vs, i + 1, d, h, hi => by
    simp only [RC] at h
    obtain ⟨u, us, rfl, _, hl⟩ := h
    simp at hi
    obtain ⟨x, hx, hr⟩ := RC.get hl hi
    exact ⟨x, by simpa using hx, hr⟩

theorem RC.length : ∀ {cs : List D} {vs : List Value}, RC g w cs vs → vs.length = cs.length
  | [], vs, h => by simp only [RC] at h; simp [h]
  | c :: cs, vs, h => by
    simp only [RC] at h
    obtain ⟨u, us, rfl, _, hl⟩ := h
    simp [RC.length hl]

theorem RL.length : ∀ {cs : List D} {vs : List Value}, RL g w cs vs → vs.length = cs.length
  | [], vs, h => by simp only [RL] at h; simp [h]
  | c :: cs, vs, h => by
    simp only [RL] at h
    obtain ⟨u, us, rfl, _, hl⟩ := h
    simp [RL.length hl]

theorem RC.of_get : ∀ {cs : List D} {vs : List Value}, vs.length = cs.length → (∀ (i : Nat) d u, cs[i]? = some d → vs[i]? = some u → u.oneCell' = true ∧ R g w d u) → RC g w cs vs
  | [], vs, hl, _ => by
    simp only [RC]
    exact List.eq_nil_of_length_eq_zero (by simpa using hl)
  | c :: cs, [], hl, _ => by simp at hl
  | c :: cs, v :: vs, hl, h => by
    simp only [RC]
    exact ⟨v, vs, rfl, h 0 c v rfl rfl, RC.of_get (by simpa using hl) fun i d u hd hu => h (i + 1) d u (by simpa using hd) (by simpa using hu)⟩

theorem RM.of_get : ∀ {cs : List D} {b o : Nat}, (∀ (i : Nat) d, cs[i]? = some d → ∃ u, Imm g w b (o + i) u ∧ u.oneCell' = true ∧ R g w d u) → RM g w cs b o
  | [], b, o, _ => by simp only [RM]
  | c :: cs, b, o, h => by
    simp only [RM]
    refine ⟨by simpa using h 0 c rfl, RM.of_get fun i d hd => ?_⟩
    have := h (i + 1) d (by simpa using hd)
    rwa [show o + (i + 1) = o + 1 + i by omega] at this

theorem RX.get {sz : Nat} : ∀ {xs : List (List D)} {b o i : Nat} {x : List D}, RX g w sz xs b o → xs[i]? = some x → x.length = sz ∧ RM g w x b (o + i * sz)
  | [], b, o, i, x, h, hi => by simp at hi
  | c :: cs, b, o, 0, x, h, hi => by
    simp only [RX] at h
    simp at hi
    subst hi
    simpa using ⟨h.1, h.2.1⟩
  | c :: cs, b, o, i + 1, x, h, hi => by
    simp only [RX] at h
    simp at hi
    have := RX.get h.2.2 hi
    rwa [show o + sz + i * sz = o + (i + 1) * sz by rw [Nat.add_mul]; omega] at this

theorem RX.of_get {sz : Nat} : ∀ {xs : List (List D)} {b o : Nat}, (∀ (i : Nat) x, xs[i]? = some x → x.length = sz ∧ RM g w x b (o + i * sz)) → RX g w sz xs b o
  | [], b, o, _ => by simp only [RX]
  | c :: cs, b, o, h => by
    simp only [RX]
    have h0 := h 0 c rfl
    refine ⟨h0.1, by simpa using h0.2, RX.of_get fun i x hx => ?_⟩
    have := h (i + 1) x (by simpa using hx)
    rwa [show o + (i + 1) * sz = o + sz + i * sz by rw [Nat.add_mul]; omega] at this

theorem GL.rm {cs : List D} {k : Nat} (h : GL g w cs k) : RM g w cs k 0 := by
  obtain ⟨⟨c, e, z, hh, hc⟩, hf⟩ := h
  refine RM.of_get fun i d hd => ?_
  have hl := hc.length
  have hi : i < cs.length := (List.getElem?_eq_some_iff.1 hd).1
  obtain ⟨u, hu, ho, hr⟩ := hc.get hd
  refine ⟨u, ⟨⟨c, e, z, hh, by rw [Nat.zero_add]; simpa using hu⟩, ?_⟩, ho, hr⟩
  rintro ⟨id, h0, hid, hm⟩
  exact hf id h0 hid (Gh.mut_block hm)

theorem evX_R {env : Env} {a : Act} (hrel : Rel P g σ w) (he : ER g w env a.tmps) {o : Operand} {x : X} (h : cmpX o x = true) : R g w (evX σ env x) (a.eval o) := by
  cases x with
  | tmp t =>
    cases o <;> simp [cmpX] at h
    subst h
    exact look_R he _
  | const d =>
    cases o <;> simp [cmpX] at h
    exact cmpV_R g w d _ h
  | fn f =>
    cases o <;> simp [cmpX] at h
    subst h
    simp [evX, R, RL, Act.eval]
  | glob k =>
    cases o <;> simp [cmpX] at h
    subst h
    simp only [evX]
    split
    · rename_i cs hcs
      simp only [R]
      exact ⟨_, 0, rfl, (hrel.glob _ _ hcs).rm⟩
    · simp only [R]

theorem evXs_RL {env : Env} {a : Act} (hrel : Rel P g σ w) (he : ER g w env a.tmps) : ∀ {os : List Operand} {xs : List X}, cmpXs os xs = true → RL g w (xs.map (evX σ env)) (os.map a.eval)
  | [], [], _ => by simp [RL]
  | o :: os, x :: xs, h => by
    simp only [cmpXs, Bool.and_eq_true] at h
    simp only [List.map_cons, RL]
    exact ⟨_, _, rfl, evX_R hrel he h.1, evXs_RL hrel he h.2⟩
  | [], _ :: _, h => by simp [cmpXs] at h
  | _ :: _, [], h => by simp [cmpXs] at h

theorem run_isAgg {t : TypeId} {b : Bool} (h : tyAgg P t = some b) : (isAgg t).run P w = .ok b w := by
  unfold tyAgg at h
  cases hu : P.underlying t with
  | none => simp [hu] at h
  | some d =>
    simp only [hu, Option.map_some, Option.some.injEq] at h
    cases d <;> simp_all [isAgg, run_underlying hu]

theorem run_sizeOf' {t : TypeId} {n : Nat} (h : tyCells P t = some n) : (sizeOf t).run P w = .ok n w := by
  unfold tyCells at h
  cases hi : P.info? t with
  | none => simp [hi] at h
  | some i =>
    simp only [hi, Option.map_some, Option.some.injEq] at h
    simp [sizeOf, typeInfo, hi, h]

theorem run_loadVar {t : TypeId} {s : Option Nat} {cs : List D} {b o off : Nat} {d : D} {p : Prop} (hs : cmpShape P t s = true)
    (hc : ∀ (i : Nat) c, cs[i]? = some c → ∃ u, w.cell? ⟨b, o + i, none⟩ = some u ∧ u.oneCell' = true ∧ R g w c u) (hr : rdD cs off s = some (d, p)) (hp : p) :
    ∃ v, (loadVar t ⟨b, o + off, none⟩).run P w = .ok v w ∧ R g w d v := by
  unfold cmpShape at hs
  cases hagg : tyAgg P t with
  | none => simp [hagg] at hs
  | some ag =>
    cases s with
    | none =>
      cases ag with
      | true => simp [hagg] at hs
      | false =>
        simp only [rdD, Option.some.injEq, Prod.mk.injEq] at hr
        obtain ⟨rfl, rfl⟩ := hr
        obtain ⟨u, hu, _, hur⟩ := hc off _ (List.getElem?_eq_getElem hp)
        refine ⟨u, ?_, by simpa [List.getD, List.getElem?_eq_getElem hp] using hur⟩
        simp [loadVar, run_isAgg hagg, hu]
    | some n =>
      cases ag with
      | false => simp [hagg] at hs
      | true =>
        simp only [hagg, beq_iff_eq] at hs
        simp only [rdD, Option.some.injEq, Prod.mk.injEq] at hr
        obtain ⟨rfl, rfl⟩ := hr
        have hpick : ∀ i, ∃ u : Value, i < n → w.cell? ⟨b, o + off + i, none⟩ = some u ∧ u.oneCell' = true ∧ ∀ c, cs[off + i]? = some c → R g w c u := by
          intro i
          by_cases hi : i < n
          · obtain ⟨u, hu, ho, hur⟩ := hc (off + i) _ (List.getElem?_eq_getElem (by omega))
            refine ⟨u, fun _ => ⟨by rw [Nat.add_assoc]; exact hu, ho, fun c hcc => ?_⟩⟩
            rw [List.getElem?_eq_getElem (by omega)] at hcc
            injection hcc with hcc
            rwa [← hcc]
          · exact ⟨Go.undef, fun h => absurd h hi⟩
        obtain ⟨f, hf⟩ : ∃ f : Nat → Value, ∀ i, i < n → w.cell? ⟨b, o + off + i, none⟩ = some (f i) ∧ (f i).oneCell' = true ∧ ∀ c, cs[off + i]? = some c → R g w c (f i) :=
          ⟨fun i => Classical.choose (hpick i), fun i => Classical.choose_spec (hpick i)⟩
        have hl := run_loadCells (P := P) w ⟨b, o + off, none⟩ n f (fun j hj => by rw [Addr.add_lit]; exact (hf j hj).1)
        refine ⟨.agg ((List.range n).map f).toArray, by simp [loadVar, run_isAgg hagg, run_sizeOf' hs, hl], ?_⟩
        simp only [R]
        refine ⟨_, rfl, ?_⟩
        have hlen : (if off = 0 ∧ n = cs.length then cs else (cs.drop off).take n).length = n := by
          split
          · omega
          · simp; omega
        have hget : ∀ i, (if off = 0 ∧ n = cs.length then cs else (cs.drop off).take n)[i]? = if i < n then cs[off + i]? else none := by
          intro i
          split
          · rename_i h
            obtain ⟨rfl, rfl⟩ := h
            simp
          · simp [List.getElem?_take, List.getElem?_drop]
        refine RC.of_get (by simp [hlen]) fun i c u hc' hu' => ?_
        rw [hget] at hc'
        split at hc'
        · rename_i hi
          simp [List.getElem?_map, List.getElem?_range hi] at hu'
          subst hu'
          exact ⟨(hf i hi).2.1, (hf i hi).2.2 c hc'⟩
        · cases hc'

theorem box_cells {id : Nat} {t : Option Nat} {cs : List D} (hrel : Rel P g σ w) (h : σ.obj id = some (.bx t cs)) :
    ∃ b, g.at_ id = some (.box b) ∧ ∀ (i : Nat) c, cs[i]? = some c → ∃ u, w.cell? ⟨b, 0 + i, none⟩ = some u ∧ u.oneCell' = true ∧ R g w c u := by
  obtain ⟨b, c, e, hb, hh, hc, _⟩ := hrel.obj id _ h
  refine ⟨b, hb, fun i d hi => ?_⟩
  obtain ⟨u, hu, h1, hr⟩ := hc.get hi
  exact ⟨u, by rw [Nat.zero_add]; exact cell_of_heap hh (by simpa using hu), h1, hr⟩

theorem flatten_get {sz : Nat} : ∀ {xs : List (List D)} {i k : Nat}, (∀ x ∈ xs, x.length = sz) → i < xs.length → k < sz → xs.flatten[i * sz + k]? = (xs.getD i [])[k]?
  | [], i, k, _, h, _ => by simp at h
  | x :: xs, 0, k, hx, _, hk => by
    have := hx x (by simp)
    simp only [List.flatten_cons, Nat.zero_mul, Nat.zero_add, List.getD_cons_zero]
    rw [List.getElem?_append, if_pos (by omega)]
  | x :: xs, i + 1, k, hx, h, hk => by
    have := hx x (by simp)
    rw [List.flatten_cons, List.getElem?_append, if_neg (by rw [Nat.add_mul]; omega), List.getD_cons_succ,
      ← flatten_get (fun y hy => hx y (by simp [hy])) (by simpa using h) hk]
    congr 1
    rw [Nat.add_mul]
    omega

theorem vec_cells {id k0 sz : Nat} {xs : List (List D)} (hrel : Rel P g σ w) (h : σ.obj id = some (.vec k0 sz xs)) :
    ∃ b off cap, g.at_ id = some (.vec b off xs.length cap k0) ∧ ∀ (i : Nat), i < xs.length → ∀ (k : Nat) c, (xs.getD i [])[k]? = some c → ∃ u, w.cell? ⟨b, off + i * sz + k, none⟩ = some u ∧ u.oneCell' = true ∧ R g w c u := by
  obtain ⟨b, off, cap, c, e, ha, hh, hc, hl, hx, hR⟩ := hrel.obj id _ h
  refine ⟨b, off, cap, ha, fun i hi k d hd => ?_⟩
  have hk : k < sz := by
    have h1 : (xs.getD i []).length = sz := by
      rw [List.getD, List.getElem?_eq_getElem hi]
      exact hx _ (List.getElem_mem hi)
    rcases Nat.lt_or_ge k sz with h | h
    · exact h
    · rw [List.getElem?_eq_none (by omega)] at hd; cases hd
  have hf := flatten_get hx hi hk
  rw [hd] at hf
  obtain ⟨u, hu, ho, hr⟩ := hR.get hf
  have hlt : i * sz + k < xs.length * sz := by
    have : (i + 1) * sz ≤ xs.length * sz := Nat.mul_le_mul_right _ (by omega)
    rw [Nat.add_mul] at this
    omega
  rw [List.getElem?_take, if_pos hlt, List.getElem?_drop, Array.getElem?_toList] at hu
  exact ⟨u, cell_of_heap hh (by rw [show off + i * sz + k = off + (i * sz + k) by omega]; exact hu), ho, hr⟩

theorem run_loadAt {t : TypeId} {s : Option Nat} {x : X} {y : Operand} {env : Env} {a : Act} {d : D} {p : Prop} (hrel : Rel P g σ w) (he : ER g w env a.tmps) (hs : cmpShape P t s = true) (hx : cmpX y x = true)
    (hv : hval σ (evX σ env) (.load s x) = some (d, p)) (hp : p) : ∃ v, (Instr.loadAt t (a.eval y)).run P w = .ok v w ∧ R g w d v := by
  have hR := evX_R hrel he hx
  simp only [hval] at hv
  split at hv
  · rename_i id off hev
    rw [hev] at hR
    simp only [R] at hR
    obtain ⟨b, hb, hval⟩ := hR
    split at hv
    · rename_i t0 cs hcs
      obtain ⟨b', hb', hc⟩ := box_cells hrel hcs
      rw [hb] at hb'
      injection hb' with hb'
      injection hb' with hb'
      subst hb'
      obtain ⟨v, hr, hR⟩ := run_loadVar (off := off) hs hc hv hp
      refine ⟨v, ?_, hR⟩
      rw [hval]
      simpa [Instr.loadAt, Instr.sureAddr] using hr
    · cases hv
  · rename_i cs off hev
    rw [hev] at hR
    simp only [R] at hR
    obtain ⟨b, o, hval, hm⟩ := hR
    obtain ⟨v, hr, hR⟩ := run_loadVar (off := off) hs (fun i c hi => by obtain ⟨u, hu, h1, hr⟩ := hm.get hi; exact ⟨u, hu.cell, h1, hr⟩) hv hp
    refine ⟨v, ?_, hR⟩
    rw [hval]
    simpa [Instr.loadAt, Instr.sureAddr] using hr
  · rename_i id k1 sz1 i off hev
    rw [hev] at hR
    simp only [R] at hR
    obtain ⟨_, _, hval⟩ := hR
    split at hv
    · rename_i k2 sz2 xs hcs
      obtain ⟨b, o, cap, ha, hc⟩ := vec_cells hrel hcs
      split at hv
      · rename_i d' p' hrd
        simp only [Option.some.injEq, Prod.mk.injEq] at hv
        obtain ⟨rfl, rfl⟩ := hv
        obtain ⟨hp, hi, rfl, rfl⟩ := hp
        obtain ⟨v, hr, hR⟩ := run_loadVar (off := off) hs (fun k c hk => hc i hi k c hk) hrd hp
        refine ⟨v, ?_, hR⟩
        rw [(hval _ _ _ _ _ ha).2 rfl]
        simpa [Instr.loadAt, Instr.sureAddr] using hr
      · cases hv
    · cases hv
  · cases hv

theorem binOp_run {op : BinOp} {t : TypeId} {x y : D} {u v : Value} {d : D} {p : Prop} (hx : R g w x u) (hy : R g w y v) (h : binD op x y = some (d, p)) (hp : p) :
    ∃ r, (binOp op t u v).run P w = .ok r w ∧ R g w d r ∧ (∀ a b, (eqGuard op t a b u v).run P w = .ok () w) := by
  unfold binD at h
  split at h
  · rename_i k a k' b
    simp only [R] at hx hy
    subst hx hy
    have hg : ∀ a' b', (eqGuard op t a' b' (Value.int k a) (Value.int k' b)).run P w = .ok () w := by
      intro a' b'
      unfold eqGuard
      split <;> simp
    cases op <;> simp only [Option.some.injEq, Prod.mk.injEq] at h <;> obtain ⟨rfl, rfl⟩ := h
    all_goals simp only [R]
    all_goals refine ⟨_, ?_, rfl, hg⟩
    all_goals first
      | (subst hp; simp [binOp, Op.intArith, Op.intBits, Op.intCmp]; done)
      | (obtain ⟨rfl, hb⟩ := hp; simp [binOp, Op.intDiv, hb]; done)
      | (simp [binOp, Op.shift, Int.not_lt.2 hp]; done)
  · rename_i a b
    simp only [R] at hx hy
    subst hx hy
    have hg : ∀ a' b', (eqGuard op t a' b' (Value.string a) (Value.string b)).run P w = .ok () w := by
      intro a' b'
      unfold eqGuard
      split <;> simp
    have hl : (a.toList == b.toList) = decide (a = b) := by
      by_cases e : a = b
      · subst e; simp
      · have : a.toList ≠ b.toList := fun h => e (by
          rw [ByteArray.toList_eq, ByteArray.toList_eq] at h
          obtain ⟨⟨l⟩⟩ := a
          obtain ⟨⟨l'⟩⟩ := b
          simp only at h
          rw [h])
        simp [e, this]
    cases op <;> simp only [Option.some.injEq, Prod.mk.injEq, reduceCtorEq] at h <;> obtain ⟨rfl, rfl⟩ := h
    all_goals simp only [R]
    all_goals refine ⟨_, ?_, rfl, hg⟩
    · have e : IntKind.i64.max = 9223372036854775807 := rfl
      have : ¬ ((a.size + b.size : Nat) : Int) > 9223372036854775807 := by omega
      simp only [binOp, Op.stringOp, e, this, if_false]
      rfl
    all_goals simp [binOp, Op.stringOp, hl]
  · cases h

theorem run_sliceBound {v : Value} {i : Int} {k : IntKind} {y : Nat} {code : BoundsCode} (hv : v = .int k i) (h : 0 ≤ i ∧ i ≤ y) : (Instr.sliceBound v y code).run P w = .ok i.toNat w := by
  subst hv
  simp [Instr.sliceBound, asIntOf, h]

theorem run_sliceBounds {isSlice : Bool} {len cap : Nat} {lo hi : Option D} {vlo vhi : Option Value} {l h : Nat} {ph pl : Prop} (hle : len ≤ cap)
    (hlo : (lo = none ∧ vlo = none) ∨ ∃ d v, lo = some d ∧ vlo = some v ∧ R g w d v) (hhi : (hi = none ∧ vhi = none) ∨ ∃ d v, hi = some d ∧ vhi = some v ∧ R g w d v)
    (h1 : boundD len len hi = some (h, ph)) (h2 : boundD h 0 lo = some (l, pl)) (hph : ph) (hpl : pl) :
    (Instr.sliceBounds isSlice len cap vlo vhi none).run P w = .ok (l, h, cap) w ∧ l ≤ h ∧ h ≤ len := by
  have hb : ∀ {n d : Nat} {x : Option D} {r : Nat} {p : Prop}, boundD n d x = some (r, p) → p → (x = none ∧ r = d) ∨ ∃ k i, x = some (.int k i) ∧ 0 ≤ i ∧ i ≤ n ∧ r = i.toNat := by
    intro n d x r p hx hp
    unfold boundD at hx
    split at hx
    · simp only [Option.some.injEq, Prod.mk.injEq] at hx; exact .inl ⟨rfl, hx.1.symm⟩
    · rename_i k i
      simp only [Option.some.injEq, Prod.mk.injEq] at hx
      obtain ⟨rfl, rfl⟩ := hx
      exact .inr ⟨k, i, rfl, hp.1, hp.2, rfl⟩
    · cases hx
  have hH := hb h1 hph
  have hL := hb h2 hpl
  rcases hH with ⟨rfl, rfl⟩ | ⟨k, i, rfl, h0, hi, rfl⟩ <;> rcases hhi with ⟨hd, rfl⟩ | ⟨d, v, hd, rfl, hr⟩ <;> (try cases hd) <;>
    rcases hL with ⟨rfl, rfl⟩ | ⟨k', i', rfl, h0', hi', rfl⟩ <;> rcases hlo with ⟨hd', rfl⟩ | ⟨d', v', hd', rfl, hr'⟩ <;> (try cases hd')
  · exact ⟨by simp [Instr.sliceBounds], by omega, by omega⟩
  · simp only [R] at hr'
    exact ⟨by simp [Instr.sliceBounds, run_sliceBound hr' ⟨h0', hi'⟩], by omega, by omega⟩
  · simp only [R] at hr
    have hi2 : i ≤ (cap : Int) := by omega
    exact ⟨by simp [Instr.sliceBounds, run_sliceBound (P := P) (w := w) hr ⟨h0, hi2⟩], by omega, by omega⟩
  · simp only [R] at hr hr'
    have hi2 : i ≤ (cap : Int) := by omega
    exact ⟨by simp [Instr.sliceBounds, run_sliceBound (P := P) (w := w) hr ⟨h0, hi2⟩, run_sliceBound (P := P) (w := w) hr' ⟨h0', hi'⟩], by omega, by omega⟩

theorem optX {env : Env} {a : Act} (hrel : Rel P g σ w) (he : ER g w env a.tmps) {o : Option Operand} {x : Option X} (h : cmpXo o x = true) :
    (x.map (evX σ env) = none ∧ o.map a.eval = none) ∨ ∃ d v, x.map (evX σ env) = some d ∧ o.map a.eval = some v ∧ R g w d v := by
  cases o <;> cases x <;> simp [cmpXo] at h
  · exact .inl ⟨rfl, rfl⟩
  · exact .inr ⟨_, _, rfl, rfl, evX_R hrel he h⟩

theorem run_sliceS {t : TypeId} {x : D} {v : Value} {lo hi : Option D} {vlo vhi : Option Value} {d : D} {p : Prop} (ht : isStr P t = true)
    (hx : R g w x v) (hlo : (lo = none ∧ vlo = none) ∨ ∃ d v, lo = some d ∧ vlo = some v ∧ R g w d v) (hhi : (hi = none ∧ vhi = none) ∨ ∃ d v, hi = some d ∧ vhi = some v ∧ R g w d v)
    (h : sliceSD x lo hi = some (d, p)) (hp : p) : ∃ r, (Instr.sliceAt t v vlo vhi none).run P w = .ok r w ∧ R g w d r := by
  unfold sliceSD at h
  split at h
  · rename_i s
    simp only [R] at hx
    subst hx
    split at h <;> try cases h
    rename_i hh ph h1
    split at h <;> try cases h
    rename_i l pl h2
    obtain ⟨hb, hlh, hhl⟩ := run_sliceBounds (P := P) (isSlice := false) (Nat.le_refl _) hlo hhi h1 h2 hp.1 hp.2
    simp only [R]
    refine ⟨_, ?_, rfl⟩
    cases hu : P.underlying t with
    | none => simp [isStr, hu] at ht
    | some dd =>
      cases dd <;> simp [isStr, hu] at ht
      simp [Instr.sliceAt, Instr.slice, run_underlying hu, hb]
  · cases h

theorem run_sliceOp {t : TypeId} {sz : Nat} {x : D} {v : Value} {lo hi : Option D} {vlo vhi : Option Value} {d : D} {p : Prop} (ht : isSliceOf P t sz = true)
    (hx : R g w x v) (hlo : (lo = none ∧ vlo = none) ∨ ∃ d v, lo = some d ∧ vlo = some v ∧ R g w d v) (hhi : (hi = none ∧ vhi = none) ∨ ∃ d v, hi = some d ∧ vhi = some v ∧ R g w d v)
    (h : sliceD sz x lo hi = some (d, p)) (hp : p) : ∃ r, (Instr.sliceAt t v vlo vhi none).run P w = .ok r w ∧ R g w d r := by
  unfold sliceD at h
  split at h
  · rename_i o sz' xs
    simp only [R] at hx
    obtain ⟨A, cap, rfl, hl, hs, ho, hX⟩ := hx
    split at h <;> try cases h
    rename_i hh ph h1
    split at h <;> try cases h
    rename_i l pl h2
    obtain ⟨hp1, hp2, rfl⟩ := hp
    obtain ⟨hb, hlh, hhl⟩ := run_sliceBounds (P := P) (isSlice := true) hl hlo hhi h1 h2 hp1 hp2
    cases hu : P.underlying t with
    | none => simp [isSliceOf, hu] at ht
    | some dd =>
      cases dd <;> simp [isSliceOf, hu] at ht
      rename_i e
      refine ⟨_, by simp only [Instr.sliceAt, Sem.run_bind, run_underlying hu, Result.andThen_ok, Instr.slice, hb, run_sizeOf' ht, Sem.run_pure]; rfl, ?_⟩
      simp only [R]
      have hlen : ((xs.take hh).drop l).length = hh - l := by simp; omega
      refine ⟨_, _, by rw [hlen], by omega, ?_, trivial, ?_⟩
      · rw [hlen]
        cases A with
        | none => simp only [SliceAt] at hs; split <;> simp [SliceAt] <;> omega
        | some ad =>
          simp only [SliceAt] at hs
          split
          · rename_i hc; exact Or.inr (by omega)
          · rename_i hc
            simp only [Option.map_some, SliceAt, Addr.add]
            rcases hs with hs | hs
            · exact Or.inl (by split <;> simp_all)
            · omega
      · intro b off hA
        refine RX.of_get fun i x hi => ?_
        have hi' : i < hh - l := by
          rcases Nat.lt_or_ge i (hh - l) with h' | h'
          · exact h'
          · rw [List.getElem?_eq_none (by omega)] at hi; cases hi
        rw [List.getElem?_drop, List.getElem?_take, if_pos (by omega)] at hi
        split at hA
        · omega
        · cases A with
          | none => simp at hA
          | some ad =>
            obtain ⟨bb, oo, sp⟩ := ad
            have hs := hs.spot hl (by omega)
            simp only at hs
            subst hs
            simp only [Option.map_some, Addr.add_lit, Option.some.injEq, Addr.mk.injEq] at hA
            obtain ⟨rfl, rfl, _⟩ := hA
            have := (hX bb oo rfl).get hi
            rwa [show oo + (l + i) * sz' = oo + l * sz' + i * sz' by rw [Nat.add_mul]; omega] at this
  · cases h

theorem RL.get : ∀ {cs : List D} {vs : List Value} {i : Nat} {d : D}, RL g w cs vs → cs[i]? = some d → ∃ u, vs[i]? = some u ∧ R g w d u
  | [], vs, i, d, h, hi => by simp at hi
  | c :: cs, vs, 0, d, h, hi => by
    simp only [RL] at h
    obtain ⟨u, us, rfl, hu, _⟩ := h
    simp at hi
    subst hi
    exact ⟨u, rfl, hu⟩
  | c :: cs, vs, i + 1, d, h, hi => by
    simp only [RL] at h
    obtain ⟨u, us, rfl, _, hl⟩ := h
    simp at hi
    obtain ⟨x, hx, hr⟩ := RL.get hl hi
    exact ⟨x, by simpa using hx, hr⟩

theorem run_part {t : TypeId} {s : Option Nat} {cs : List D} {vs : Array Value} {off : Nat} {d : D} {p : Prop} (hs : cmpShape P t s = true)
    (hl : RC g w cs vs.toList) (hr : rdD cs off s = some (d, p)) (hp : p) : ∃ v, (part t vs off).run P w = .ok v w ∧ R g w d v := by
  unfold cmpShape at hs
  have hlen := hl.length
  cases hagg : tyAgg P t with
  | none => simp [hagg] at hs
  | some ag =>
    cases s with
    | none =>
      cases ag with
      | true => simp [hagg] at hs
      | false =>
        simp only [rdD, Option.some.injEq, Prod.mk.injEq] at hr
        obtain ⟨rfl, rfl⟩ := hr
        obtain ⟨u, hu, _, hur⟩ := hl.get (List.getElem?_eq_getElem hp)
        have hu' : vs[off]? = some u := by simpa using hu
        refine ⟨u, ?_, by simpa [List.getD, List.getElem?_eq_getElem hp] using hur⟩
        simp [part, run_isAgg hagg, hu']
    | some n =>
      cases ag with
      | false => simp [hagg] at hs
      | true =>
        simp only [hagg, beq_iff_eq] at hs
        simp only [rdD, Option.some.injEq, Prod.mk.injEq] at hr
        obtain ⟨rfl, rfl⟩ := hr
        refine ⟨.agg (vs.extract off (off + n)), by simp [part, run_isAgg hagg, run_sizeOf' hs], ?_⟩
        simp only [R]
        refine ⟨_, rfl, ?_⟩
        have hl2 : (if off = 0 ∧ n = cs.length then cs else (cs.drop off).take n).length = n := by
          split
          · omega
          · simp; omega
        have hget : ∀ i : Nat, (if off = 0 ∧ n = cs.length then cs else (cs.drop off).take n)[i]? = if i < n then cs[off + i]? else none := by
          intro i
          split
          · rename_i h
            obtain ⟨rfl, rfl⟩ := h
            simp
          · simp [List.getElem?_take, List.getElem?_drop]
        have hex : ∀ i : Nat, i < n → (vs.extract off (off + n)).toList[i]? = vs.toList[off + i]? := by
          intro i hi
          simp only [Array.toList_extract, List.extract_eq_take_drop]
          rw [List.getElem?_take, List.getElem?_drop, if_pos (by omega)]
        refine RC.of_get (by simp [hl2]; simp at hlen; omega) fun i c u hc' hu' => ?_
        rw [hget] at hc'
        split at hc'
        · rename_i hi
          obtain ⟨u', hu2, h1, h2⟩ := hl.get hc'
          rw [hex i hi, hu2] at hu'
          injection hu' with hu'
          subst hu'
          exact ⟨h1, h2⟩
        · cases hc'

theorem equalIn_bool (n : Nat) {t : TypeId} (a b : Bool) (hu : P.underlying t = some .bool) : (Op.equalIn (n + 1) t (.bool a) (.bool b)).run P w = .ok (a == b) w := by
  simp only [Op.equalIn, Sem.run_bind, run_underlying hu, Result.andThen_ok, Sem.run_pure]
theorem equal_bool {t : TypeId} (a b : Bool) (hu : P.underlying t = some .bool) : (Op.equal t (.bool a) (.bool b)).run P w = .ok (a == b) w := equalIn_bool 9999 a b hu

theorem equalIn_ptr_nil (n : Nat) {t e : TypeId} (a : Option Addr) (hu : P.underlying t = some (.pointer e)) : (Op.equalIn (n + 1) t (.pointer a) (.pointer none)).run P w = .ok a.isNone w := by
  cases a <;> simp only [Op.equalIn, Sem.run_bind, run_underlying hu, Result.andThen_ok, Sem.run_pure, Option.isNone]
theorem equal_ptr_nil {t e : TypeId} (a : Option Addr) (hu : P.underlying t = some (.pointer e)) : (Op.equal t (.pointer a) (.pointer none)).run P w = .ok a.isNone w := equalIn_ptr_nil 9999 a hu

theorem equalIn_nil_ptr (n : Nat) {t e : TypeId} (a : Option Addr) (hu : P.underlying t = some (.pointer e)) : (Op.equalIn (n + 1) t (.pointer none) (.pointer a)).run P w = .ok a.isNone w := by
  cases a <;> simp only [Op.equalIn, Sem.run_bind, run_underlying hu, Result.andThen_ok, Sem.run_pure, Option.isNone]
theorem equal_nil_ptr {t e : TypeId} (a : Option Addr) (hu : P.underlying t = some (.pointer e)) : (Op.equal t (.pointer none) (.pointer a)).run P w = .ok a.isNone w := equalIn_nil_ptr 9999 a hu

theorem equal_ptr_same {t e : TypeId} {i : TypeInfo} (a : Addr) (hu : P.underlying t = some (.pointer e)) (hi : P.info? e = some i) : (Op.equal t (.pointer (some a)) (.pointer (some a))).run P w = .ok true w := by
  have h : ∀ d : Nat, (Op.equalIn (d + 1) t (.pointer (some a)) (.pointer (some a))).run P w = .ok true w := fun d => by
    simp [Op.equalIn, run_underlying hu, sizeOf, typeInfo, hi, run_sameAddr_same]
  exact h 9999

def isNili : Value → Bool
  | .nilIface => true
  | _ => false

theorem equalIn_if_nil (n : Nat) {t : TypeId} {ms : Array (String × TypeId)} (v : Value) (hv : v = .nilIface ∨ ∃ t u, v = .iface t u) (hu : P.underlying t = some (.interface ms)) :
    (Op.equalIn (n + 1) t v .nilIface).run P w = .ok (isNili v) w ∧ (Op.equalIn (n + 1) t .nilIface v).run P w = .ok (isNili v) w := by
  rcases hv with rfl | ⟨t', u, rfl⟩ <;> simp only [Op.equalIn, Sem.run_bind, run_underlying hu, Result.andThen_ok, Sem.run_pure, isNili, and_self]
theorem equal_if_nil {t : TypeId} {ms : Array (String × TypeId)} (v : Value) (hv : v = .nilIface ∨ ∃ t u, v = .iface t u) (hu : P.underlying t = some (.interface ms)) :
    (Op.equal t v .nilIface).run P w = .ok (isNili v) w ∧ (Op.equal t .nilIface v).run P w = .ok (isNili v) w := equalIn_if_nil 9999 v hv hu

theorem eqOp_spec {neg : Bool} {op : BinOp} (h : eqOp neg op = true) : op = .eql ∧ neg = false ∨ op = .neq ∧ neg = true := by
  cases neg <;> simp_all [eqOp]

theorem run_eq {neg : Bool} {op : BinOp} {t : TypeId} {x y : Value} {x' y' : Operand} {b : Bool} (hop : eqOp neg op = true) (hg : (eqGuard op t x' y' x y).run P w = .ok () w)
    (he : (Op.equal t x y).run P w = .ok b w) (h1 : binOp .eql t x y = (do pure (.bool (← Op.equal t x y)))) (h2 : binOp .neq t x y = (do pure (.bool (!(← Op.equal t x y))))) :
    (do eqGuard op t x' y' x y; binOp op t x y : Sem Value).run P w = .ok (.bool (neg ^^ b)) w := by
  rcases eqOp_spec hop with ⟨rfl, rfl⟩ | ⟨rfl, rfl⟩
  · simp only [Sem.run_bind, hg, h1, he, Result.andThen_ok, Sem.run_pure, Bool.false_bne]
  · simp only [Sem.run_bind, hg, h2, he, Result.andThen_ok, Sem.run_pure, Bool.true_bne]

theorem scalK_agg {t : TypeId} {k : Nat} (h : scalK P t k = true) : tyAgg P t = some false := by
  unfold scalK at h
  split at h
  all_goals first
    | (split at h; (rename_i e; simp [tyAgg, e]); cases h)
    | cases h

theorem eqFields_flat {n : Nat} : ∀ (fs : List Field) (ks : List Nat) (i : Nat) {cs ds : List D} {xs ys : Array Value} {b : Bool}, flatF P fs ks i = true → RC g w cs xs.toList → RC g w ds ys.toList → eqCells ks (cs.drop i) (ds.drop i) = some b →
    (Op.eqFields (n + 1) xs ys fs).run P w = .ok b w
  | [], [], i, cs, ds, xs, ys, b, _, _, _, he => by
    unfold eqCells at he
    split at he <;> simp_all [Op.eqFields]
  | [], _ :: _, i, cs, ds, xs, ys, b, h, _, _, _ => by simp [flatF] at h
  | _ :: _, [], i, cs, ds, xs, ys, b, h, _, _, _ => by simp [flatF] at h
  | f :: fs, k :: ks, i, cs, ds, xs, ys, b, h, hx, hy, he => by
    simp only [flatF, Bool.and_eq_true, bne_iff_ne, ne_eq, beq_iff_eq] at h
    obtain ⟨⟨⟨h1, rfl⟩, h3⟩, h4⟩ := h
    have hsh : cmpShape P f.type none = true := by unfold cmpShape; rw [scalK_agg h3]
    have key : ∀ {l : List D} {c : D} {r : List D}, l.drop f.offset = c :: r → f.offset < l.length ∧ l.getD f.offset .undef = c ∧ l.drop (f.offset + 1) = r := by
      intro l c r e
      have hl : f.offset < l.length := by
        rcases Nat.lt_or_ge f.offset l.length with h | h
        · exact h
        · rw [List.drop_eq_nil_of_le h] at e; cases e
      rw [List.drop_eq_getElem_cons hl] at e
      injection e with e1 e2
      exact ⟨hl, by simp [List.getD, hl, e1], e2⟩
    unfold eqCells at he
    split at he <;> try cases he
    · rename_i e1 e2 e3
      cases e1
    · rename_i ks' k1 a xs' k2 b' ys' e1 e2 e3
      injection e1 with e4 e5
      subst e4
      subst e5
      split at he
      · rename_i hk
        subst hk
        obtain ⟨q1, q2, q3⟩ := key e2
        obtain ⟨r1, r2, r3⟩ := key e3
        obtain ⟨u, hu, hR⟩ := run_part (P := P) (s := none) hsh hx rfl q1
        obtain ⟨v, hv, hS⟩ := run_part (P := P) (s := none) hsh hy rfl r1
        rw [q2] at hR
        rw [r2] at hS
        simp only [R] at hR hS
        subst hR
        subst hS
        obtain ⟨r, hr, rfl⟩ := Option.map_eq_some_iff.1 he
        have ih := eqFields_flat (n := n) fs ks (f.offset + 1) h4 hx hy (by rw [q3, r3]; exact hr)
        obtain ⟨kk, hkk⟩ : ∃ kk, P.underlying f.type = some (.int kk) := by
          simp only [scalK] at h3
          split at h3
          · exact ⟨_, by assumption⟩
          · cases h3
        simp only [Op.eqFields, ne_eq, h1, not_false_eq_true, if_true, Sem.run_bind, hu, hv, Result.andThen_ok, run_equalIn_int w n f.type k1 kk a b' hkk]
        cases hab : (a == b')
        · simp
        · simpa using ih
      · cases he
    · rename_i ks' a xs' b' ys' e1 e2 e3
      injection e1 with e4 e5
      subst e4
      subst e5
      obtain ⟨q1, q2, q3⟩ := key e2
      obtain ⟨r1, r2, r3⟩ := key e3
      obtain ⟨u, hu, hR⟩ := run_part (P := P) (s := none) hsh hx rfl q1
      obtain ⟨v, hv, hS⟩ := run_part (P := P) (s := none) hsh hy rfl r1
      rw [q2] at hR
      rw [r2] at hS
      simp only [R] at hR hS
      subst hR
      subst hS
      obtain ⟨r, hr, rfl⟩ := Option.map_eq_some_iff.1 he
      have ih := eqFields_flat (n := n) fs ks (f.offset + 1) h4 hx hy (by rw [q3, r3]; exact hr)
      have hkk : P.underlying f.type = some .string := by
        simp only [scalK] at h3
        split at h3
        · assumption
        · cases h3
      simp only [Op.eqFields, ne_eq, h1, not_false_eq_true, if_true, Sem.run_bind, hu, hv, Result.andThen_ok, run_equalIn_string w n f.type a b' hkk]
      have hbe : (a.toList == b'.toList) = decide (a = b') := by
        by_cases h : a = b'
        · subst h; simp
        · have h2 : a.toList ≠ b'.toList := fun e => h (by rw [ByteArray.toList_eq, ByteArray.toList_eq] at e; exact ByteArray.ext (Array.toList_inj.1 e))
          simp [h, h2]
      rw [hbe]
      cases hab : decide (a = b')
      · simp
      · simpa using ih
    · rename_i ks' a xs' b' ys' e1 e2 e3
      injection e1 with e4 e5
      subst e4
      subst e5
      obtain ⟨q1, q2, q3⟩ := key e2
      obtain ⟨r1, r2, r3⟩ := key e3
      obtain ⟨u, hu, hR⟩ := run_part (P := P) (s := none) hsh hx rfl q1
      obtain ⟨v, hv, hS⟩ := run_part (P := P) (s := none) hsh hy rfl r1
      rw [q2] at hR
      rw [r2] at hS
      simp only [R] at hR hS
      subst hR
      subst hS
      obtain ⟨r, hr, rfl⟩ := Option.map_eq_some_iff.1 he
      have ih := eqFields_flat (n := n) fs ks (f.offset + 1) h4 hx hy (by rw [q3, r3]; exact hr)
      have hkk : P.underlying f.type = some .bool := by
        simp only [scalK] at h3
        split at h3
        · assumption
        · cases h3
      simp only [Op.eqFields, ne_eq, h1, not_false_eq_true, if_true, Sem.run_bind, hu, hv, Result.andThen_ok, run_equalIn_bool' w n f.type a b' hkk]
      cases hab : (a == b')
      · simp
      · simpa using ih

theorem isFlat_spec {t : TypeId} {ks : List Nat} (h : isFlat P t ks = true) : P.underlying t = some (.struct (P.fieldsOf t)) ∧ P.stoodInHeld t = false ∧ P.eqGuardType P.depth t = false ∧ flatF P (P.fieldsOf t).toList ks 0 = true := by
  unfold isFlat at h
  split at h
  · rename_i fs hu
    have hfs : P.fieldsOf t = fs := by simp [Program.fieldsOf, hu]
    simp only [Bool.and_eq_true, Bool.not_eq_true'] at h
    rw [hfs]
    exact ⟨hu, h.1.1, h.1.2, h.2⟩
  · cases h

theorem isStr_spec {t : TypeId} (h : isStr P t = true) : P.underlying t = some .string := by
  unfold isStr at h
  split at h
  · assumption
  · cases h
theorem isPtr_spec {t : TypeId} (h : isPtr P t = true) : ∃ e i, P.underlying t = some (.pointer e) ∧ P.info? e = some i := by
  unfold isPtr at h
  split at h
  · rename_i e hu
    cases hi : P.info? e with
    | none => simp [hi] at h
    | some i => exact ⟨e, i, hu, hi⟩
  · cases h
theorem isIface_spec {t : TypeId} (h : isIface P t = true) : ∃ e, P.underlying t = some (.interface e) := by
  unfold isIface at h
  split at h
  · exact ⟨_, by assumption⟩
  · cases h
theorem isBoolTy_spec {t : TypeId} (h : isBoolTy P t = true) : P.underlying t = some .bool := by
  unfold isBoolTy at h
  split at h
  · assumption
  · cases h
theorem isSliceTy_spec {t : TypeId} (h : isSliceTy P t = true) : ∃ e, P.underlying t = some (.slice e) := by
  unfold isSliceTy at h
  split at h
  · exact ⟨_, by assumption⟩
  · cases h
theorem isSliceOf_spec {t : TypeId} {sz : Nat} (h : isSliceOf P t sz = true) : ∃ e, P.underlying t = some (.slice e) ∧ tyCells P e = some sz := by
  unfold isSliceOf at h
  split at h
  · exact ⟨_, by assumption, by simpa using h⟩
  · cases h
theorem isArrOf_spec {t : TypeId} {sz len : Nat} (h : isArrOf P t sz len = true) : ∃ e, P.underlying t = some (.array len e) ∧ tyCells P e = some sz := by
  unfold isArrOf at h
  split at h
  · simp only [Bool.and_eq_true, beq_iff_eq] at h
    obtain ⟨rfl, h⟩ := h
    exact ⟨_, by assumption, h⟩
  · cases h
theorem isArrE_spec {t : TypeId} {s : Option Nat} {sz len : Nat} (h : isArrE P t s sz len = true) : ∃ e, P.underlying t = some (.array len e) ∧ tyCells P e = some sz ∧ cmpShape P e s = true := by
  unfold isArrE at h
  split at h
  · simp only [Bool.and_eq_true, beq_iff_eq] at h
    obtain ⟨⟨rfl, h⟩, h2⟩ := h
    exact ⟨_, by assumption, h, h2⟩
  · cases h
theorem isIntTy_spec {t : TypeId} {k : IntKind} (h : isIntTy P t k = true) : P.underlying t = some (.int k) := by
  unfold isIntTy at h
  split at h
  · simp only [decide_eq_true_eq] at h; subst h; assumption
  · cases h
theorem fieldOf_spec {t : TypeId} {f : Nat} {fl : Field} (h : fieldOf P t f = some fl) : ∃ fs, P.underlying t = some (.struct fs) ∧ fs[f]? = some fl := by
  unfold fieldOf at h
  split at h
  · exact ⟨_, by assumption, h⟩
  · cases h
theorem cmpFaddr_spec {t : TypeId} {f off : Nat} (h : cmpFaddr P t f off = true) : ∃ fs fl n, P.underlying t = some (.struct fs) ∧ fs[f]? = some fl ∧ fl.offset = off ∧ tyCells P fl.type = some (n + 1) := by
  unfold cmpFaddr at h
  split at h
  · rename_i fl hf
    simp only [Bool.and_eq_true, beq_iff_eq] at h
    obtain ⟨fs, h1, h2⟩ := fieldOf_spec hf
    obtain ⟨h3, h4⟩ := h
    split at h4
    · exact ⟨fs, fl, _, h1, h2, h3, by assumption⟩
    · cases h4
  · cases h
theorem cmpField_spec {t : TypeId} {f off : Nat} {s : Option Nat} (h : cmpField P t f off s = true) : ∃ fs fl, P.underlying t = some (.struct fs) ∧ fs[f]? = some fl ∧ fl.offset = off ∧ cmpShape P fl.type s = true := by
  unfold cmpField at h
  split at h
  · rename_i fl hf
    simp only [Bool.and_eq_true, beq_iff_eq] at h
    obtain ⟨fs, h1, h2⟩ := fieldOf_spec hf
    exact ⟨fs, fl, h1, h2, h.1, h.2⟩
  · cases h
theorem isLen_spec {c : Callee} (h : isLen c = true) : c = .builtin .len := by
  unfold isLen at h
  split at h
  · rfl
  · cases h

theorem eqGuard_if {op : BinOp} {t : TypeId} {x y : Operand} {u v : Value} (hc : (isConstOp x || isConstOp y) = true) (hu : u = .nilIface ∨ ∃ t z, u = .iface t z)
    (hv : v = .nilIface ∨ ∃ t z, v = .iface t z) : (eqGuard op t x y u v).run P w = .ok () w := by
  rcases hu with rfl | ⟨_, _, rfl⟩ <;> rcases hv with rfl | ⟨_, _, rfl⟩
  · cases x <;> cases y <;> first
      | (simp [isConstOp] at hc; done)
      | (cases op <;> rfl)
  all_goals (cases op <;> rfl)

theorem hval_run {o : Oper} {h : HO} {env : Env} {a : Act} {d : D} {p : Prop} (hrel : Rel P g σ w) (he : ER g w env a.tmps) (hc : cmpHV P o h = true)
    (hv : hval σ (evX σ env) h = some (d, p)) (hp : p) : ∃ v, (execOp a.eval o).run P w = .ok (.value v) w ∧ R g w d v := by
  obtain ⟨dst, op, type, pos, after, guard⟩ := o
  cases h with
  | mv x =>
    simp only [hval, Option.some.injEq, Prod.mk.injEq] at hv
    obtain ⟨rfl, rfl⟩ := hv
    simp only [cmpHV] at hc
    split at hc
    · exact ⟨_, rfl, evX_R hrel he hc⟩
    · exact ⟨_, rfl, evX_R hrel he hc⟩
    · cases hc
  | pick c x y =>
    simp only [cmpHV] at hc
    split at hc; rotate_left; · cases hc
    simp only [Bool.and_eq_true] at hc
    obtain ⟨⟨h1, h2⟩, h3⟩ := hc
    have hR := evX_R hrel he h1
    simp only [hval] at hv
    split at hv <;> try cases hv
    rename_i t hev
    rw [hev] at hR
    simp only [R] at hR
    cases t
    · exact ⟨_, by simp [execOp, hR, asBool]; rfl, by simpa using evX_R hrel he h3⟩
    · exact ⟨_, by simp [execOp, hR, asBool]; rfl, by simpa using evX_R hrel he h2⟩
  | load s x =>
    simp only [cmpHV] at hc
    split at hc; rotate_left; · cases hc
    simp only [Bool.and_eq_true] at hc
    obtain ⟨v, hr, hR⟩ := run_loadAt hrel he hc.1 hc.2 hv hp
    exact ⟨v, by simp [execOp, hr], hR⟩
  | nilck x =>
    simp only [cmpHV] at hc
    split at hc; rotate_left; · cases hc
    have hR := evX_R hrel he hc
    simp only [hval] at hv
    split at hv <;> (try cases hv) <;> rename_i hev <;> rw [hev] at hR
    all_goals
      refine ⟨_, ?_, hR⟩
      simp only [R] at hR
      first
        | (obtain ⟨b, hb, hval⟩ := hR; simp [execOp, hval]; done)
        | (obtain ⟨b, o, hval, hm⟩ := hR; simp [execOp, hval]; done)
        | (obtain ⟨b, hval, hm⟩ := hR; simp [execOp, hval]; done)
        | (obtain ⟨_, ⟨b, o, hval⟩, hm⟩ := hR; simp [execOp, hval]; done)
  | bin op' x y =>
    simp only [cmpHV] at hc
    split at hc; rotate_left; · cases hc
    rename_i op tx x' y' ty
    simp only [Bool.and_eq_true, decide_eq_true_eq] at hc
    obtain ⟨⟨rfl, h1⟩, h2⟩ := hc
    simp only [hval] at hv
    obtain ⟨r, hr, hR, hg⟩ := binOp_run (P := P) (t := tx) (evX_R hrel he h1) (evX_R hrel he h2) hv hp
    exact ⟨r, by simp [execOp, hr, hg], hR⟩
  | eqBool neg x y =>
    simp only [cmpHV] at hc
    split at hc; rotate_left; · cases hc
    rename_i op tx x' y' ty
    simp only [Bool.and_eq_true] at hc
    obtain ⟨⟨⟨hop, hu⟩, h2⟩, h3⟩ := hc
    have hu := isBoolTy_spec hu
    have hx := evX_R hrel he h2
    have hy := evX_R hrel he h3
    simp only [hval] at hv
    split at hv <;> try cases hv
    rename_i b b' hev hev'
    rw [hev] at hx
    rw [hev'] at hy
    simp only [R] at hx hy ⊢
    have hg : (eqGuard op tx x' y' (a.eval x') (a.eval y')).run P w = .ok () w := by unfold eqGuard; rw [hx, hy]; split <;> simp
    have hr := run_eq (x' := x') (y' := y') hop hg (by rw [hx, hy]; exact equal_bool (w := w) b b' hu) (by rw [hx, hy]; rfl) (by rw [hx, hy]; rfl)
    exact ⟨_, by simp only [execOp]; rw [Sem.run_bind, hr]; rfl, rfl⟩
  | eqPtr neg x y =>
    simp only [cmpHV] at hc
    split at hc; rotate_left; · cases hc
    rename_i op tx x' y' ty
    simp only [Bool.and_eq_true] at hc
    obtain ⟨⟨⟨hop, hu⟩, h2⟩, h3⟩ := hc
    obtain ⟨el, ei, hu, hei⟩ := isPtr_spec hu
    have hx := evX_R hrel he h2
    have hy := evX_R hrel he h3
    simp only [hval] at hv
    cases hn : nilEqD (evX σ env x) (evX σ env y) with
    | none => simp [hn] at hv
    | some b =>
      simp only [hn, Option.map_some, Option.some.injEq, Prod.mk.injEq] at hv
      obtain ⟨rfl, rfl⟩ := hv
      have hv' : (∃ q, a.eval x' = .pointer q) ∧ (∃ q, a.eval y' = .pointer q) ∧ (Op.equal tx (a.eval x') (a.eval y')).run P w = .ok b.1 w := by
        unfold nilEqD at hn
        split at hn <;> (try cases hn) <;> rename_i h1 h2 <;> rw [h1] at hx <;> rw [h2] at hy <;> simp only [R] at hx hy
        · rw [hx, hy]; exact ⟨⟨_, rfl⟩, ⟨_, rfl⟩, equal_ptr_nil _ hu⟩
        · obtain ⟨_, _, hy⟩ := hy
          rw [hx, hy]; exact ⟨⟨_, rfl⟩, ⟨_, rfl⟩, equal_nil_ptr _ hu⟩
        · obtain ⟨_, _, hy, _⟩ := hy
          rw [hx, hy]; exact ⟨⟨_, rfl⟩, ⟨_, rfl⟩, equal_nil_ptr _ hu⟩
        · obtain ⟨_, _, hx⟩ := hx
          rw [hx, hy]; exact ⟨⟨_, rfl⟩, ⟨_, rfl⟩, equal_ptr_nil _ hu⟩
        · obtain ⟨_, _, hx, _⟩ := hx
          rw [hx, hy]; exact ⟨⟨_, rfl⟩, ⟨_, rfl⟩, equal_ptr_nil _ hu⟩
        · obtain ⟨rfl, rfl⟩ := hp
          obtain ⟨b1, hb1, hx⟩ := hx
          obtain ⟨b2, hb2, hy⟩ := hy
          rw [hb1] at hb2
          injection hb2 with hb2
          injection hb2 with hb2
          subst hb2
          rw [hx, hy]; exact ⟨⟨_, rfl⟩, ⟨_, rfl⟩, equal_ptr_same _ hu hei⟩
      obtain ⟨⟨q1, e1⟩, ⟨q2, e2⟩, he⟩ := hv'
      simp only [R]
      have hg : (eqGuard op tx x' y' (a.eval x') (a.eval y')).run P w = .ok () w := by unfold eqGuard; rw [e1, e2]; split <;> simp
      have hr := run_eq (x' := x') (y' := y') hop hg he (by rw [e1, e2]; rfl) (by rw [e1, e2]; rfl)
      exact ⟨_, by simp only [execOp]; rw [Sem.run_bind, hr]; rfl, rfl⟩
  | eqAgg neg ks x y =>
    simp only [cmpHV] at hc
    split at hc; rotate_left; · cases hc
    rename_i op tx x' y' ty
    simp only [Bool.and_eq_true] at hc
    obtain ⟨⟨⟨hop, hu⟩, h2⟩, h3⟩ := hc
    obtain ⟨hu, hst, hgt, hfl⟩ := isFlat_spec hu
    have hx := evX_R hrel he h2
    have hy := evX_R hrel he h3
    simp only [hval] at hv
    split at hv <;> try cases hv
    rename_i cs ds hev hev'
    rw [hev] at hx
    rw [hev'] at hy
    simp only [R] at hx hy
    obtain ⟨vs, hvs, hcx⟩ := hx
    obtain ⟨us, hus, hcy⟩ := hy
    obtain ⟨b, hb, he2⟩ := Option.map_eq_some_iff.1 hv
    injection he2 with e1 e2
    subst e1
    subst e2
    have hfe := eqFields_flat (n := 9998) (P.fieldsOf tx).toList ks 0 hfl hcx hcy hb
    have heq : (Op.equal tx (a.eval x') (a.eval y')).run P w = .ok b w := by
      rw [hvs, hus]
      show (Op.equalIn (9999 + 1) tx (.agg vs) (.agg us)).run P w = _
      rw [run_equalIn_struct w 9999 tx vs us hu hst]
      exact hfe
    have hg : (eqGuard op tx x' y' (a.eval x') (a.eval y')).run P w = .ok () w := by
      rw [hvs, hus]
      exact run_eqGuard_agg w op tx x' y' vs us hgt
    have hr := run_eq (x' := x') (y' := y') hop hg heq (by rw [hvs, hus]; rfl) (by rw [hvs, hus]; rfl)
    simp only [R]
    exact ⟨_, by simp only [execOp]; rw [Sem.run_bind, hr]; rfl, rfl⟩
  | eqIf neg x y =>
    simp only [cmpHV] at hc
    split at hc; rotate_left; · cases hc
    rename_i op tx x' y' ty
    simp only [Bool.and_eq_true] at hc
    obtain ⟨⟨⟨⟨hop, hu⟩, h2⟩, h3⟩, h4⟩ := hc
    obtain ⟨ms, hu⟩ := isIface_spec hu
    have hx := evX_R hrel he h2
    have hy := evX_R hrel he h3
    simp only [hval] at hv
    cases hn : ifEqD (evX σ env x) (evX σ env y) with
    | none => simp [hn] at hv
    | some b =>
      obtain ⟨b, q⟩ := b
      simp only [hn, Option.map_some, Option.some.injEq, Prod.mk.injEq] at hv
      obtain ⟨rfl, rfl⟩ := hv
      have hv' : (a.eval x' = .nilIface ∨ ∃ t z, a.eval x' = .iface t z) ∧ (a.eval y' = .nilIface ∨ ∃ t z, a.eval y' = .iface t z) ∧ (Op.equal tx (a.eval x') (a.eval y')).run P w = .ok b w := by
        unfold ifEqD at hn
        split at hn <;> (try cases hn) <;> rename_i h1 h2 <;> rw [h1] at hx <;> rw [h2] at hy <;> simp only [R] at hx hy
        · rw [hx, hy]; exact ⟨.inl rfl, .inl rfl, (equal_if_nil (w := w) _ (.inl rfl) hu).1⟩
        · obtain ⟨_, hy, _⟩ := hy
          rw [hx, hy]; exact ⟨.inl rfl, .inr ⟨_, _, rfl⟩, (equal_if_nil (w := w) _ (.inr ⟨_, _, rfl⟩) hu).2⟩
        · obtain ⟨_, hx, _⟩ := hx
          rw [hx, hy]; exact ⟨.inr ⟨_, _, rfl⟩, .inl rfl, (equal_if_nil (w := w) _ (.inr ⟨_, _, rfl⟩) hu).1⟩
      obtain ⟨e1, e2, he⟩ := hv'
      simp only [R]
      have hr := run_eq (x' := x') (y' := y') hop (eqGuard_if h4 e1 e2) he (by rcases e1 with e1 | ⟨_, _, e1⟩ <;> rcases e2 with e2 | ⟨_, _, e2⟩ <;> rw [e1, e2] <;> rfl) (by rcases e1 with e1 | ⟨_, _, e1⟩ <;> rcases e2 with e2 | ⟨_, _, e2⟩ <;> rw [e1, e2] <;> rfl)
      exact ⟨_, by simp only [execOp]; rw [Sem.run_bind, hr]; rfl, rfl⟩
  | not x =>
    simp only [cmpHV] at hc
    split at hc; rotate_left; · cases hc
    simp only [Bool.and_eq_true, decide_eq_true_eq] at hc
    obtain ⟨rfl, hc⟩ := hc
    have hR := evX_R hrel he hc
    simp only [hval] at hv
    split at hv <;> try cases hv
    rename_i b hev
    rw [hev] at hR
    simp only [R] at hR ⊢
    exact ⟨_, by simp [execOp, hR, Op.unary], rfl⟩
  | neg x =>
    simp only [cmpHV] at hc
    split at hc; rotate_left; · cases hc
    simp only [Bool.and_eq_true, decide_eq_true_eq] at hc
    obtain ⟨rfl, hc⟩ := hc
    have hR := evX_R hrel he hc
    simp only [hval] at hv
    split at hv <;> try cases hv
    rename_i b hev
    rw [hev] at hR
    simp only [R] at hR ⊢
    exact ⟨_, by simp [execOp, hR, Op.unary, Op.intArith], rfl⟩
  | convI k x =>
    simp only [cmpHV] at hc
    split at hc; rotate_left; · cases hc
    simp only [Bool.and_eq_true] at hc
    obtain ⟨⟨h1, h2⟩, h3⟩ := hc
    have hR := evX_R hrel he h3
    simp only [hval] at hv
    split at hv <;> try cases hv
    rename_i k' n hev
    rw [hev] at hR
    simp only [R] at hR ⊢
    obtain ⟨ds, hs⟩ := Option.isSome_iff_exists.1 h1
    exact ⟨_, by simp [execOp, hR, convert, run_underlying hs, run_underlying (isIntTy_spec h2), Conv.intToInt], rfl⟩
  | mkif t x =>
    simp only [cmpHV] at hc
    split at hc; rotate_left; · cases hc
    simp only [Bool.and_eq_true, beq_iff_eq] at hc
    obtain ⟨⟨rfl, h2⟩, h3⟩ := hc
    have hR := evX_R hrel he h3
    simp only [hval, Option.some.injEq, Prod.mk.injEq] at hv
    obtain ⟨rfl, rfl⟩ := hv
    simp only [R]
    refine ⟨_, ?_, _, rfl, hR⟩
    unfold notIface at h2
    split at h2 <;> try cases h2
    rename_i dd hne hu
    cases dd <;> first
      | (simp [execOp, Instr.makeInterface, run_underlying hu]; done)
      | (exact (hne _ rfl).elim)
  | mkfn f caps =>
    simp only [cmpHV] at hc
    split at hc; rotate_left; · cases hc
    simp only [Bool.and_eq_true, beq_iff_eq] at hc
    obtain ⟨⟨rfl, h2⟩, h3⟩ := hc
    simp only [hval, Option.some.injEq, Prod.mk.injEq] at hv
    obtain ⟨rfl, rfl⟩ := hv
    rename_i first captured
    have h2' : first = #[] := by simpa using h2
    subst h2'
    simp only [R]
    refine ⟨_, by simp [execOp, Instr.makeFunc]; rfl, _, rfl, ?_⟩
    simpa using evXs_RL hrel he h3
  | slice sz x lo hi =>
    simp only [cmpHV] at hc
    split at hc; rotate_left; · cases hc
    simp only [Bool.and_eq_true] at hc
    obtain ⟨⟨⟨h1, h2⟩, h3⟩, h4⟩ := hc
    simp only [hval] at hv
    obtain ⟨r, hr, hR⟩ := run_sliceOp (P := P) h1 (evX_R hrel he h2) (optX hrel he h3) (optX hrel he h4) hv hp
    exact ⟨r, by simp [execOp, hr], hR⟩
  | sliceS x lo hi =>
    simp only [cmpHV] at hc
    split at hc; rotate_left; · cases hc
    simp only [Bool.and_eq_true] at hc
    obtain ⟨⟨⟨h1, h2⟩, h3⟩, h4⟩ := hc
    simp only [hval] at hv
    obtain ⟨r, hr, hR⟩ := run_sliceS (P := P) h1 (evX_R hrel he h2) (optX hrel he h3) (optX hrel he h4) hv hp
    exact ⟨r, by simp [execOp, hr], hR⟩
  | faddr x off =>
    simp only [cmpHV] at hc
    split at hc; rotate_left; · cases hc
    rename_i st x' f
    simp only [Bool.and_eq_true] at hc
    obtain ⟨h1, h2⟩ := hc
    have hR := evX_R hrel he h2
    obtain ⟨fs, fl, n, hu, hfs, rfl, hn⟩ := cmpFaddr_spec h1
    have hrun : ∀ b o, (Instr.fieldAt st (.pointer (some ⟨b, o, none⟩)) f).run P w = .ok (.pointer (some ⟨b, o + fl.offset, none⟩)) w := by
      intro b o
      simp [Instr.fieldAt, run_underlying hu, hfs, Instr.sureAddr, fieldPlace, run_sizeOf' hn, Addr.add_lit]
    simp only [hval] at hv
    split at hv <;> (try cases hv) <;> rename_i id o hev <;> rw [hev] at hR <;> simp only [R] at hR ⊢
    · obtain ⟨b, hb, hval⟩ := hR
      exact ⟨_, by simp only [execOp, hval, Sem.run_bind, hrun]; rfl, b, hb, rfl⟩
    · obtain ⟨b, oo, hval, hm⟩ := hR
      exact ⟨_, by simp only [execOp, hval, Sem.run_bind, hrun]; rfl, b, oo, by rw [Nat.add_assoc], hm⟩
    · obtain ⟨hlt, ⟨b, oo, hval⟩, hm⟩ := hR
      exact ⟨_, by simp only [execOp, hval, Sem.run_bind, hrun]; rfl, hlt, ⟨_, _, rfl⟩, fun b' off' len' cap' k' h' => by
        have := hm b' off' len' cap' k' h'
        refine ⟨this.1, fun e => ?_⟩
        have := this.2 e
        rw [hval] at this
        injection this with this
        injection this with this
        injection this with h1 h2
        subst h1 h2
        rw [Nat.add_assoc]⟩
  | field s x off =>
    simp only [cmpHV] at hc
    split at hc; rotate_left; · cases hc
    rename_i st x' f
    simp only [Bool.and_eq_true] at hc
    obtain ⟨h1, h2⟩ := hc
    have hR := evX_R hrel he h2
    obtain ⟨fs, fl, hu, hfs, rfl, hsh⟩ := cmpField_spec h1
    simp only [hval] at hv
    split at hv <;> try cases hv
    rename_i cs hev
    rw [hev] at hR
    simp only [R] at hR
    obtain ⟨vs, hvs, hl⟩ := hR
    obtain ⟨v, hr, hR⟩ := run_part (P := P) hsh hl hv hp
    exact ⟨v, by simp [execOp, hvs, Instr.field, run_underlying hu, hfs, asAgg, hr], hR⟩
  | iaddr sz x i =>
    simp only [cmpHV] at hc
    split at hc; rotate_left; · cases hc
    rename_i t x' i'
    simp only [Bool.and_eq_true] at hc
    obtain ⟨⟨h1, h2⟩, h3⟩ := hc
    have hx := evX_R hrel he h2
    have hi := evX_R hrel he h3
    simp only [hval] at hv
    split at hv <;> try cases hv
    · rename_i ow sz' xs k n hev hev'
      rw [hev] at hx
      rw [hev'] at hi
      simp only [R] at hx hi
      obtain ⟨A, cap, hval, hl, hs, ho, hX⟩ := hx
      obtain ⟨rfl, hn0, hn1⟩ := hp
      obtain ⟨e, hu, h1⟩ := isSliceOf_spec h1
      cases A with
      | none => simp only [SliceAt] at hs; omega
      | some ad =>
        obtain ⟨b, off, sp⟩ := ad
        have hs := hs.spot hl (by omega)
        simp only at hs
        subst hs
        have hx := (hX b off rfl).get (i := n.toNat) (List.getElem?_eq_getElem (by omega))
        simp only [R]
        refine ⟨.pointer (some ⟨b, off + n.toNat * sz', none⟩), ?_, b, off + n.toNat * sz', rfl, ?_⟩
        · simp [execOp, hval, hi, Instr.indexAt, asIntOf, run_underlying hu, hn0, hn1, run_sizeOf' h1, Addr.add_lit]
        · rw [List.getD, List.getElem?_eq_getElem (by omega)]
          exact hx.2
    · rename_i id k n hev hev'
      split at hv
      · rename_i sz2 xs hcs
        simp only [Option.some.injEq, Prod.mk.injEq] at hv
        obtain ⟨rfl, rfl⟩ := hv
        obtain ⟨rfl, rfl, hn0, hn1⟩ := hp
        obtain ⟨b, off, cap, ha, hc⟩ := vec_cells hrel hcs
        rw [hev] at hx
        rw [hev'] at hi
        simp only [R] at hx hi
        obtain ⟨e, hu, h1⟩ := isSliceOf_spec h1
        have hval := (hx.2.2 _ _ _ _ _ ha).2 rfl
        simp only [R]
        refine ⟨.pointer (some ⟨b, off + n.toNat * sz2, none⟩), ?_, hx.1, ⟨_, _, rfl⟩, fun b' off' len' cap' k' h' => ?_⟩
        · simp [execOp, hval, hi, Instr.indexAt, asIntOf, run_underlying hu, hn0, hn1, run_sizeOf' h1, Addr.add_lit]
        · rw [ha] at h'
          injection h' with h'
          injection h' with h1 h2 h3 h4 h5
          subst h1 h2 h5
          exact ⟨Nat.le_refl _, fun _ => rfl⟩
      · cases hv
  | aaddr sz len x i =>
    simp only [cmpHV] at hc
    split at hc; rotate_left; · cases hc
    rename_i t x' i'
    simp only [Bool.and_eq_true] at hc
    obtain ⟨⟨h1, h2⟩, h3⟩ := hc
    have hx := evX_R hrel he h2
    have hi := evX_R hrel he h3
    obtain ⟨e, hu, h1⟩ := isArrOf_spec h1
    have hrun : ∀ b o n k, (0 : Int) ≤ n → n < (len : Int) → (Instr.indexAt t (.pointer (some ⟨b, o, none⟩)) (.int k n)).run P w = .ok (.pointer (some ⟨b, o + n.toNat * sz, none⟩)) w := by
      intro b o n k hn0 hn1
      simp [Instr.indexAt, asIntOf, run_underlying hu, Instr.sureAddr, hn0, hn1, run_sizeOf' h1, Addr.add_lit]
    simp only [hval] at hv
    split at hv <;> (try cases hv) <;> rename_i o k n hev hev' <;> rw [hev] at hx <;> rw [hev'] at hi <;> simp only [R] at hx hi ⊢
    · obtain ⟨b, hb, hval⟩ := hx
      exact ⟨_, by simp only [execOp, hval, hi, Sem.run_bind, hrun _ _ _ _ hp.1 hp.2]; rfl, b, hb, rfl⟩
    · obtain ⟨b, oo, hval, hm⟩ := hx
      exact ⟨_, by simp only [execOp, hval, hi, Sem.run_bind, hrun _ _ _ _ hp.1 hp.2]; rfl, b, oo, by rw [Nat.add_assoc], hm⟩
  | aidx s sz len x i =>
    simp only [cmpHV] at hc
    split at hc; rotate_left; · cases hc
    rename_i t x' i'
    simp only [Bool.and_eq_true] at hc
    obtain ⟨⟨h1, h2⟩, h3⟩ := hc
    have hx := evX_R hrel he h2
    have hi := evX_R hrel he h3
    obtain ⟨e, hu, h1, hsh⟩ := isArrE_spec h1
    simp only [hval] at hv
    split at hv <;> try cases hv
    rename_i cs k n hev hev'
    rw [hev] at hx
    rw [hev'] at hi
    simp only [R] at hx hi
    obtain ⟨vs, hvs, hl⟩ := hx
    split at hv; rotate_left; · cases hv
    rename_i d' p' hrd
    simp only [Option.some.injEq, Prod.mk.injEq] at hv
    obtain ⟨rfl, rfl⟩ := hv
    obtain ⟨hp, hn0, hn1⟩ := hp
    obtain ⟨v, hr, hR⟩ := run_part (P := P) hsh hl hrd hp
    exact ⟨v, by simp [execOp, hvs, hi, Instr.index, asIntOf, run_underlying hu, hn0, hn1, run_sizeOf' h1, hr], hR⟩
  | index x i =>
    simp only [cmpHV] at hc
    split at hc; rotate_left; · cases hc
    simp only [Bool.and_eq_true] at hc
    obtain ⟨⟨h1, h2⟩, h3⟩ := hc
    have hx := evX_R hrel he h2
    have hi := evX_R hrel he h3
    simp only [hval] at hv
    split at hv <;> try cases hv
    rename_i s k n hev hev'
    rw [hev] at hx
    rw [hev'] at hi
    simp only [R] at hx hi ⊢
    obtain ⟨hn0, hn1⟩ := hp
    have hu := isStr_spec h1
    have hlt : n.toNat < s.size := by omega
    refine ⟨_, ?_, rfl⟩
    have hget : s.data.getD n.toNat 0 = s[n.toNat] := by
      have : n.toNat < s.data.size := hlt
      rw [Array.getD, dif_pos this]
      rfl
    simp [execOp, hx, hi, Instr.index, asIntOf, run_underlying hu, hn0, ByteArray.getElem?_lt' s _ hlt, hget]
  | extract x i =>
    simp only [cmpHV] at hc
    split at hc; rotate_left; · cases hc
    simp only [Bool.and_eq_true, beq_iff_eq] at hc
    obtain ⟨rfl, h2⟩ := hc
    have hR := evX_R hrel he h2
    simp only [hval] at hv
    split at hv <;> try cases hv
    rename_i ds hev
    rw [hev] at hR
    simp only [R] at hR
    obtain ⟨vs, hvs, hl⟩ := hR
    obtain ⟨u, hu, hR⟩ := hl.get (List.getElem?_eq_getElem hp)
    have hu' := hu
    rw [Array.getElem?_toList] at hu'
    refine ⟨u, by simp [execOp, hvs, Instr.extract, hu'], ?_⟩
    rw [List.getD, List.getElem?_eq_getElem hp]
    exact hR
  | len x =>
    simp only [cmpHV] at hc
    split at hc; rotate_left; · cases hc
    rename_i c
    simp only [Bool.and_eq_true] at hc
    obtain ⟨hcc, hc⟩ := hc
    split at hc; rotate_left; · cases hc
    rename_i t y ht hy
    simp only [Bool.and_eq_true] at hc
    obtain ⟨h1, h2⟩ := hc
    obtain ⟨e, hu⟩ := isSliceTy_spec h1
    have hx := evX_R hrel he h2
    simp only [hval] at hv
    split at hv <;> try cases hv
    · rename_i ow sz xs hev
      rw [hev] at hx
      simp only [R] at hx ⊢
      obtain ⟨A, cap, hval, _⟩ := hx
      obtain ⟨callee, args, ats⟩ := c
      simp only at hcc hy ht
      have hcc := isLen_spec hcc
      subst hcc
      have ha : args = #[y] := by
        obtain ⟨l⟩ := args
        simp only at hy
        rw [hy]
      subst ha
      exact ⟨_, by simp [execOp, resolve, invoke, builtin, Builtin.len_, ht, hval, run_underlying hu, goInt], rfl⟩
    · rename_i id k1 hev
      split at hv
      · rename_i k2 sz2 xs hcs
        simp only [Option.some.injEq, Prod.mk.injEq] at hv
        obtain ⟨rfl, rfl⟩ := hv
        subst hp
        obtain ⟨b, off, cap, ha, hc⟩ := vec_cells hrel hcs
        rw [hev] at hx
        simp only [R] at hx ⊢
        have hval := (hx.2.2 _ _ _ _ _ ha).2 rfl
        obtain ⟨callee, args, ats⟩ := c
        simp only at hcc hy ht
        have hcc := isLen_spec hcc
        subst hcc
        have ha' : args = #[y] := by
          obtain ⟨l⟩ := args
          simp only at hy
          rw [hy]
        subst ha'
        exact ⟨_, by simp [execOp, resolve, invoke, builtin, Builtin.len_, ht, hval, run_underlying hu, goInt], rfl⟩
      · cases hv
  | lenS x =>
    simp only [cmpHV] at hc
    split at hc; rotate_left; · cases hc
    rename_i c
    simp only [Bool.and_eq_true] at hc
    obtain ⟨hcc, hc⟩ := hc
    split at hc; rotate_left; · cases hc
    rename_i t y ht hy
    simp only [Bool.and_eq_true] at hc
    obtain ⟨h1, h2⟩ := hc
    have hu := isStr_spec h1
    have hx := evX_R hrel he h2
    simp only [hval] at hv
    split at hv <;> try cases hv
    rename_i s hev
    rw [hev] at hx
    simp only [R] at hx ⊢
    obtain ⟨callee, args, ats⟩ := c
    simp only at hcc hy ht
    have hcc := isLen_spec hcc
    subst hcc
    have ha : args = #[y] := by
      obtain ⟨l⟩ := args
      simp only at hy
      rw [hy]
    subst ha
    exact ⟨_, by simp [execOp, resolve, invoke, builtin, Builtin.len_, ht, hx, run_underlying hu, goInt], rfl⟩
  | convU x =>
    simp only [cmpHV] at hc
    split at hc; rotate_left; · cases hc
    rename_i s d x'
    simp only [Bool.and_eq_true] at hc
    obtain ⟨h1, h2⟩ := hc
    have hR := evX_R hrel he h2
    simp only [hval] at hv
    split at hv <;> try cases hv
    rename_i id off hev
    split at hv <;> try cases hv
    rename_i t cs hob
    rw [hev] at hR
    simp only [R] at hR ⊢
    obtain ⟨b, hb, hval⟩ := hR
    obtain ⟨b', c, e, hb', hh, hcc, _⟩ := hrel.obj id _ hob
    rw [hb] at hb'
    injection hb' with hb'
    injection hb' with hb'
    subst hb'
    unfold isPtrU at h1
    split at h1; rotate_left; · cases h1
    rename_i e1 hs hd
    cases hi : P.info? e1 with
    | none => simp [hi] at h1
    | some j =>
      simp only [hi, decide_eq_true_eq] at h1
      have hlen := hcc.length
      have hsh : w.shape? b = some (e, c.size) := by simp [World.shape?, hh]
      refine ⟨_, ?_, b, hb, rfl⟩
      simp only [execOp, hval]
      rw [Sem.run_bind, Go.Lib.run_to_unsafe (P := P) w ⟨b, off, none⟩ hs hd hi h1 hsh (by simp at hlen ⊢; omega)]
      rfl
  | convT u n x =>
    simp only [cmpHV] at hc
    split at hc; rotate_left; · cases hc
    rename_i s d x'
    simp only [Bool.and_eq_true] at hc
    obtain ⟨h1, h2⟩ := hc
    have hR := evX_R hrel he h2
    simp only [hval] at hv
    split at hv <;> try cases hv
    rename_i id off hev
    split at hv <;> try cases hv
    rename_i t cs hob
    obtain ⟨rfl, rfl, hn⟩ := hp
    rw [hev] at hR
    simp only [R] at hR ⊢
    obtain ⟨b, hb, hval⟩ := hR
    obtain ⟨b', c, e, hb', hh, hcc, hte⟩ := hrel.obj id _ hob
    rw [hb] at hb'
    injection hb' with hb'
    injection hb' with hb'
    subst hb'
    have hte := hte t rfl
    subst hte
    unfold isPtrT at h1
    split at h1; rotate_left; · cases h1
    rename_i e1 hs hd
    simp only [Bool.and_eq_true, beq_iff_eq] at h1
    obtain ⟨⟨rfl, hi⟩, hl⟩ := h1
    cases hii : P.info? e1 with
    | none => simp [hii] at hi
    | some j =>
      have hlen := hcc.length
      have hsh : w.shape? b = some (e1, c.size) := by simp [World.shape?, hh]
      refine ⟨_, ?_, b, hb, rfl⟩
      simp only [execOp, hval]
      have hcs : c.size = n := by simp at hlen; omega
      rw [Sem.run_bind, Go.Lib.run_from_unsafe (P := P) w ⟨b, 0, none⟩ hs hd hii hsh (by rw [hcs]; exact hl)]
      rfl
  | assertT t x =>
    simp only [cmpHV] at hc
    split at hc; rotate_left; · cases hc
    simp only [Bool.and_eq_true, beq_iff_eq] at hc
    obtain ⟨⟨rfl, h2⟩, h3⟩ := hc
    have hR := evX_R hrel he h3
    simp only [hval] at hv
    split at hv <;> (try cases hv)
    rename_i t' dd hev
    rw [hev] at hR
    simp only [R] at hR ⊢
    obtain ⟨u, hu0, hu1⟩ := hR
    subst hp
    unfold notIface at h2
    split at h2 <;> try cases h2
    rename_i d0 hne hu
    refine ⟨.tuple #[u, .bool true], ?_, _, rfl, ?_⟩
    · cases d0 <;> first
        | (simp [execOp, Instr.typeAssert, run_underlying hu, hu0]; done)
        | (exact (hne _ rfl).elim)
    · simp only [RL, R]
      exact ⟨_, _, rfl, hu1, _, _, rfl, rfl, rfl⟩
  | sliceA n x =>
    simp only [cmpHV] at hc
    split at hc; rotate_left; · cases hc
    simp only [Bool.and_eq_true] at hc
    obtain ⟨h1, h2⟩ := hc
    have hR := evX_R hrel he h2
    simp only [hval] at hv
    split at hv <;> (try cases hv)
    rename_i cs off hev
    rw [hev] at hR
    simp only [R] at hR ⊢
    obtain ⟨b, o, hval, hm⟩ := hR
    obtain ⟨rfl, hlen⟩ := hp
    unfold isArr at h1
    split at h1 <;> try cases h1
    rename_i m e hu
    simp only [Bool.and_eq_true, beq_iff_eq] at h1
    obtain ⟨rfl, hsz⟩ := h1
    refine ⟨.slice (some ⟨b, o, none⟩) m m, ?_, some ⟨b, o, none⟩, m, by rw [List.length_map, hlen], by rw [List.length_map, hlen]; exact Nat.le_refl _, .inl rfl, trivial, fun b' off' hA => ?_⟩
    · have hz : (if m - 0 = 0 then some (⟨b, o, none⟩ : Addr) else some ⟨b, o, none⟩) = some ⟨b, o, none⟩ := by split <;> rfl
      rw [Nat.add_zero] at hval
      simp [execOp, Instr.sliceAt, run_underlying hu, hval, Instr.sureAddr, Instr.sliceBounds, run_sizeOf' hsz, Addr.add_lit]
    · injection hA with hA
      injection hA with q1 q2
      subst q1 q2
      have key : ∀ (cs : List D) (o : Nat), RM g w cs b o → RX g w 1 (cs.map fun c => [c]) b o := by
        intro cs
        induction cs with
        | nil => intro o _; simp only [List.map_nil, RX]
        | cons c cs ih =>
          intro o h
          simp only [RM] at h
          simp only [List.map_cons, RX, RM]
          exact ⟨rfl, ⟨h.1, trivial⟩, ih (o + 1) h.2⟩
      exact key cs o hm
  | bstr x =>
    simp only [cmpHV] at hc
    split at hc; rotate_left; · cases hc
    simp only [Bool.and_eq_true] at hc
    obtain ⟨h1, h2⟩ := hc
    have hR := evX_R hrel he h2
    simp only [hval] at hv
    split at hv <;> (try cases hv)
    rename_i o' sz xs hev
    rw [hev] at hR
    simp only [R] at hR ⊢
    obtain ⟨A, cap, hval, hle, hsl, _, hx⟩ := hR
    obtain ⟨rfl, hok⟩ := hp
    obtain ⟨l, rfl⟩ := bytesOk_list hok
    unfold isBStr at h1
    split at h1 <;> try cases h1
    rename_i e hs hd
    have hb : P.underlying e = some (.int .u8) := by
      split at h1
      · assumption
      · cases h1
    rw [bytesD_map]
    rw [List.length_map] at hval hsl hle
    refine ⟨.string ⟨l.toArray⟩, ?_, rfl⟩
    cases A with
    | none =>
      have hl : l = [] := by
        simp only [SliceAt] at hsl
        exact List.length_eq_zero_iff.1 hsl.1
      subst hl
      simp only [execOp, hval]
      rw [Sem.run_bind, run_convert_bytes_string w _ _ e none _ _ hs hb hd]
      simp [Conv.bytesToString]
      rfl
    | some a =>
      simp only [execOp, hval]
      rw [Sem.run_bind, run_convert_bytes_back w _ _ e a cap l hs hb hd fun j hj => ?_]; · rfl
      have hsp : a.spot = none := by
        simp only [SliceAt] at hsl
        rcases hsl with h | h
        · exact h
        · omega
      obtain ⟨b, off, sp⟩ := a
      simp only at hsp
      subst hsp
      have hx' := hx b off rfl
      obtain ⟨_, hm⟩ := hx'.get (i := j) (x := [.int .u8 (l[j].toNat : Int)]) (by simp [hj])
      obtain ⟨u, hi, _, hu⟩ := hm.get (i := 0) rfl
      simp only [R] at hu
      subst hu
      rw [Addr.add_lit]
      simpa using hi.cell
  | mm mx x y =>
    simp only [cmpHV] at hc
    split at hc; rotate_left; · cases hc
    rename_i c
    simp only [Bool.and_eq_true] at hc
    obtain ⟨hcc, hc⟩ := hc
    split at hc; rotate_left; · cases hc
    rename_i x' y' hxy
    simp only [Bool.and_eq_true] at hc
    obtain ⟨h1, h2⟩ := hc
    have hx := evX_R hrel he h1
    have hy := evX_R hrel he h2
    simp only [hval] at hv
    split at hv <;> try cases hv
    rename_i k a' k' b' hev hev'
    rw [hev] at hx
    rw [hev'] at hy
    simp only [R] at hx hy ⊢
    obtain ⟨callee, args, ats⟩ := c
    simp only at hcc hxy
    have ha : args = #[x', y'] := by
      obtain ⟨l⟩ := args
      simp only at hxy
      rw [hxy]
    subst ha
    subst hp
    cases mx
    · have hcal : callee = .builtin .min := by
        unfold isMM at hcc
        split at hcc <;> first
          | rfl
          | cases hcc
      subst hcal
      exact ⟨_, by simp [execOp, resolve, invoke, builtin, Builtin.min_, Builtin.min2, hx, hy], rfl⟩
    · have hcal : callee = .builtin .max := by
        unfold isMM at hcc
        split at hcc <;> first
          | rfl
          | cases hcc
      subst hcal
      exact ⟨_, by simp [execOp, resolve, invoke, builtin, Builtin.max_, Builtin.max2, hx, hy], rfl⟩
  | _ => simp [hval] at hv

theorem eqSl_run {o : Oper} {env : Env} {a : Act} {neg : Bool} {x : X} {ow : Own} {sz : Nat} {xs : List (List D)} (hrel : Rel P g σ w) (he : ER g w env a.tmps) (hc : cmpHV P o (.eqSl neg x) = true) (hx : evX σ env x = .slice ow sz xs) :
    ∃ b, (b = true → xs = []) ∧ (execOp a.eval o).run P w = .ok (.value (.bool (neg ^^ b))) w := by
  obtain ⟨dst, op, type, pos, after, guard⟩ := o
  simp only [cmpHV] at hc
  split at hc; rotate_left; · cases hc
  rename_i op' t x' y' ty
  simp only [Bool.and_eq_true] at hc
  obtain ⟨⟨⟨hop, hu⟩, h2⟩, h3⟩ := hc
  obtain ⟨el, hu⟩ := isSliceTy_spec hu
  have hR := evX_R hrel he h2
  rw [hx] at hR
  simp only [R] at hR
  obtain ⟨A, cap, hv, hl, hsl, _, _⟩ := hR
  have hy : a.eval y' = .slice none 0 0 := by
    unfold isNilSl at h3
    split at h3
    · rfl
    · cases h3
  refine ⟨A.isNone, fun hb => ?_, ?_⟩
  · cases A with
    | none => simp only [SliceAt] at hsl; exact List.eq_nil_of_length_eq_zero hsl.1
    | some _ => cases hb
  · have heq : (Op.equal t (a.eval x') (a.eval y')).run P w = .ok A.isNone w := by
      rw [hv, hy]
      have : ∀ d : Nat, (Op.equalIn (d + 1) t (.slice A xs.length cap) (.slice none 0 0)).run P w = .ok A.isNone w := fun d => by
        cases A <;> simp [Op.equalIn, run_underlying hu]
      simp [Op.equal, Op.maxDepth, this 9999]
    have hg : (eqGuard op' t x' y' (a.eval x') (a.eval y')).run P w = .ok () w := by unfold eqGuard; rw [hv, hy]; split <;> simp
    have hr := run_eq (x' := x') (y' := y') hop hg heq (by rw [hv, hy]; rfl) (by rw [hv, hy]; rfl)
    simp only [execOp]; rw [Sem.run_bind, hr]; rfl

end
end Go.Hl
