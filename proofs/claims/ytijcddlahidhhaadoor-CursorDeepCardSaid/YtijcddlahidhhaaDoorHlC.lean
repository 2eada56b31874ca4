/-
  The check that a small syntax is the code of a function, and the relation between a walk's store and a world.
-/
import Derived.Test.YtijcddlahidhhaaDoorHlB
import Derived.ArgAppend
set_option linter.unusedSectionVars false
set_option linter.unusedVariables false
namespace Go.Hl
open Go

mutual
def cmpV : D → Value → Bool
  | .bool b, .bool b' => b == b'
  | .int k n, .int k' n' => decide (k = k') && n == n'
  | .str s, .string s' => decide (s.data.toList = s'.data.toList)
  | .nilp, .pointer none => true
  | .slice .nil _ [], .slice none 0 0 => true
  | .func f [], .func (.func f') first caps => f == f' && first.toList.isEmpty && caps.toList.isEmpty
  | .nilf, .nilFunc => true
  | .iface t d, .iface t' v => t == t' && cmpV d v
  | .nili, .nilIface => true
  | .agg cs, .agg vs => cmpVs cs vs.toList
  | _, _ => false
def cmpVs : List D → List Value → Bool
  | [], [] => true
  | d :: ds, v :: vs => cmpV d v && v.oneCell' && cmpVs ds vs
  | _, _ => false
end

mutual
theorem cmpV_R (g : G) (w : World) : ∀ (d : D) (v : Value), cmpV d v = true → R g w d v
  | .undef, v, h => by simp only [R]
  | .dead, v, h => by cases v <;> simp_all [cmpV]
  | .bool b, v, h => by cases v <;> simp_all [cmpV, R]
  | .int k n, v, h => by cases v <;> simp_all [cmpV, R]
  | .str s, v, h => by
    cases v <;> simp only [cmpV, Bool.false_eq_true, decide_eq_true_eq] at h
    rename_i s'
    obtain ⟨⟨l⟩⟩ := s
    obtain ⟨⟨l'⟩⟩ := s'
    simp only at h
    subst h
    simp only [R]
  | .nilp, v, h => by cases v <;> simp_all [cmpV, R]; rename_i a; cases a <;> simp_all [cmpV]
  | .ptr id off, v, h => by cases v <;> simp_all [cmpV]
  | .eptr cs off, v, h => by cases v <;> simp_all [cmpV]
  | .slice o sz xs, v, h => by
    cases v <;> try (cases o <;> cases xs <;> simp [cmpV] at h; done)
    rename_i a len cap
    cases o <;> cases xs <;> cases a <;> (try simp [cmpV] at h)
    cases len <;> cases cap <;> (try simp [cmpV] at h)
    simp only [R]
    exact ⟨none, 0, rfl, Nat.le_refl _, ⟨rfl, rfl⟩, rfl, fun b off hA => by cases hA⟩
  | .func f caps, v, h => by
    cases v <;> try (cases caps <;> simp [cmpV] at h; done)
    rename_i fn first cap
    obtain ⟨l⟩ := first
    obtain ⟨l'⟩ := cap
    cases caps <;> cases fn <;> simp only [cmpV, Bool.false_eq_true, Bool.and_eq_true, beq_iff_eq, List.isEmpty_iff] at h
    obtain ⟨⟨rfl, rfl⟩, rfl⟩ := h
    simp [R, RL]
  | .yld id, v, h => by cases v <;> simp_all [cmpV]
  | .nilf, v, h => by cases v <;> simp_all [cmpV, R]
  | .iface t d, v, h => by
    cases v <;> simp only [cmpV, Bool.false_eq_true, Bool.and_eq_true, beq_iff_eq] at h
    simp only [R]
    obtain ⟨rfl, h⟩ := h
    exact ⟨_, rfl, cmpV_R g w d _ h⟩
  | .nili, v, h => by cases v <;> simp_all [cmpV, R]
  | .agg cs, v, h => by
    cases v <;> simp only [cmpV, Bool.false_eq_true] at h
    simp only [R]
    exact ⟨_, rfl, cmpVs_RC g w cs _ h⟩
  | .tuple ds, v, h => by cases v <;> simp_all [cmpV]
  | .vec id k, v, h => by cases v <;> simp_all [cmpV]
  | .vptr id k sz i o, v, h => by cases v <;> simp_all [cmpV]
  | .sptr t xs, v, h => by cases v <;> simp_all [cmpV]
theorem cmpVs_RC (g : G) (w : World) : ∀ (ds : List D) (vs : List Value), cmpVs ds vs = true → RC g w ds vs
  | [], vs, h => by cases vs <;> simp_all [cmpVs, RC]
  | d :: ds, vs, h => by
    cases vs with
    | nil => simp [cmpVs] at h
    | cons v vs =>
      simp only [cmpVs, Bool.and_eq_true] at h
      simp only [RC]
      exact ⟨v, vs, rfl, ⟨h.1.2, cmpV_R g w d v h.1.1⟩, cmpVs_RC g w ds vs h.2⟩
end

def tyCells (P : Program) (t : TypeId) : Option Nat := (P.info? t).map (·.size)
def tyBytes (P : Program) (t : TypeId) : Option Nat := (P.info? t).map (·.bytes)
def tyAgg (P : Program) (t : TypeId) : Option Bool := (P.underlying t).map fun d => match d with
  | .struct _ | .array _ _ => true
  | _ => false
def cmpShape (P : Program) (t : TypeId) (s : Option Nat) : Bool :=
  match tyAgg P t, s with
  | some false, none => true
  | some true, some n => tyCells P t == some n
  | _, _ => false
def cmpZero (P : Program) (t : TypeId) (z : List D) : Bool :=
  match (P.info? t).bind (·.zero) with
  | some v => cmpVs z v.cells.toList
  | none => false
def isSliceOf (P : Program) (t : TypeId) (sz : Nat) : Bool :=
  match P.underlying t with
  | some (.slice e) => tyCells P e == some sz
  | _ => false
def isArrOf (P : Program) (t : TypeId) (sz len : Nat) : Bool :=
  match P.underlying t with
  | some (.array m e) => m == len && tyCells P e == some sz
  | _ => false
def isArrE (P : Program) (t : TypeId) (s : Option Nat) (sz len : Nat) : Bool :=
  match P.underlying t with
  | some (.array m e) => m == len && tyCells P e == some sz && cmpShape P e s
  | _ => false
def isStr (P : Program) (t : TypeId) : Bool :=
  match P.underlying t with
  | some .string => true
  | _ => false
def fieldOf (P : Program) (t : TypeId) (f : Nat) : Option Field :=
  match P.underlying t with
  | some (.struct fs) => fs[f]?
  | _ => none
def isPtr (P : Program) (t : TypeId) : Bool :=
  match P.underlying t with
  | some (.pointer e) => (P.info? e).isSome
  | _ => false
def isBStr (P : Program) (s d : TypeId) : Bool :=
  match P.underlying s, P.underlying d with
  | some (.slice e), some .string => (match P.underlying e with | some (.int .u8) => true | _ => false)
  | _, _ => false
def isPtrU (P : Program) (s d : TypeId) : Bool :=
  match P.underlying s, P.underlying d with
  | some (.pointer e), some .unsafePointer => (match P.info? e with | some i => decide (i.size ≠ 0) | none => false)
  | _, _ => false
def isPtrT (P : Program) (s d u n : TypeId) : Bool :=
  match P.underlying s, P.underlying d with
  | some .unsafePointer, some (.pointer e) => e == u && (P.info? e).isSome && liesAt P P.depth e (n / P.cellsOf e) 0 e 1
  | _, _ => false
def isMM (mx : Bool) : Callee → Bool
  | .builtin .max => mx
  | .builtin .min => !mx
  | _ => false
def isNilSl : Operand → Bool
  | .const (.slice none 0 0) => true
  | _ => false
def isIface (P : Program) (t : TypeId) : Bool :=
  match P.underlying t with
  | some (.interface _) => true
  | _ => false

def scalK (P : Program) (t : TypeId) : Nat → Bool
  | 0 => (match P.underlying t with | some (.int _) => true | _ => false)
  | 1 => (match P.underlying t with | some .string => true | _ => false)
  | 2 => (match P.underlying t with | some .bool => true | _ => false)
  | _ => false
def flatF (P : Program) : List Field → List Nat → Nat → Bool
  | [], [], _ => true
  | f :: fs, k :: ks, i => f.name != "_" && f.offset == i && scalK P f.type k && flatF P fs ks (i + 1)
  | _, _, _ => false
def isFlat (P : Program) (t : TypeId) (ks : List Nat) : Bool :=
  match P.underlying t with
  | some (.struct fs) => !P.stoodInHeld t && !P.eqGuardType P.depth t && flatF P fs.toList ks 0
  | _ => false

def cmpX : Operand → X → Bool
  | .tmp t, .tmp t' => t == t'
  | .const v, .const d => cmpV d v
  | .func f, .fn f' => f == f'
  | .global g, .glob g' => g == g'
  | _, _ => false
def cmpXs : List Operand → List X → Bool
  | [], [] => true
  | a :: as, b :: bs => cmpX a b && cmpXs as bs
  | _, _ => false
def cmpXo : Option Operand → Option X → Bool
  | none, none => true
  | some a, some b => cmpX a b
  | _, _ => false

def isConstOp : Operand → Bool
  | .const _ => true
  | _ => false

def cmpParts (P : Program) (fs : Array Field) : List (Nat × Operand) → List (Nat × Nat × X) → Bool
  | [], [] => true
  | (i, x) :: ps, (off, sz, x') :: ps' => (match fs[i]? with
      | some f => f.offset == off && tyCells P f.type == some sz
      | none => false) && cmpX x x' && cmpParts P fs ps ps'
  | _, _ => false
def cmpPartsA (sz : Nat) : List (Nat × Operand) → List (Nat × Nat × X) → Bool
  | [], [] => true
  | (i, x) :: ps, (off, sz', x') :: ps' => i * sz == off && sz' == sz && cmpX x x' && cmpPartsA sz ps ps'
  | _, _ => false
def cmpParts2 : List (Nat × Operand) → List (Nat × X) → Bool
  | [], [] => true
  | (i, x) :: ps, (j, x') :: ps' => i == j && cmpX x x' && cmpParts2 ps ps'
  | _, _ => false

def isBoolTy (P : Program) (t : TypeId) : Bool :=
  match P.underlying t with
  | some .bool => true
  | _ => false
def isSliceTy (P : Program) (t : TypeId) : Bool :=
  match P.underlying t with
  | some (.slice _) => true
  | _ => false
def isIntTy (P : Program) (t : TypeId) (k : IntKind) : Bool :=
  match P.underlying t with
  | some (.int k') => decide (k = k')
  | _ => false
def isArr (P : Program) (t : TypeId) (n : Nat) : Bool :=
  match P.underlying t with
  | some (.array m e) => m == n && tyCells P e == some 1
  | _ => false
def notIface (P : Program) (t : TypeId) : Bool :=
  match P.underlying t with
  | some (.interface _) => false
  | some _ => true
  | none => false
def eqOp (neg : Bool) (op : BinOp) : Bool := if neg then decide (op = .neq) else decide (op = .eql)
def cmpFaddr (P : Program) (t : TypeId) (f off : Nat) : Bool :=
  match fieldOf P t f with
  | some fl => fl.offset == off && (match tyCells P fl.type with | some (_ + 1) => true | _ => false)
  | none => false
def cmpField (P : Program) (t : TypeId) (f off : Nat) (s : Option Nat) : Bool :=
  match fieldOf P t f with
  | some fl => fl.offset == off && cmpShape P fl.type s
  | none => false
def isLen : Callee → Bool
  | .builtin .len => true
  | _ => false

def cmpHV (P : Program) (o : Oper) (h : HO) : Bool :=
  match h with
  | .mv x' => (match o.op with
    | .move x => cmpX x x'
    | .assign x => cmpX x x'
    | _ => false)
  | .pick c' a' b' => (match o.op with
    | .pick c a b => cmpX c c' && cmpX a a' && cmpX b b'
    | _ => false)
  | .load s x' => (match o.op with
    | .load t x => cmpShape P t s && cmpX x x'
    | _ => false)
  | .nilck x' => (match o.op with
    | .nilCheck x => cmpX x x'
    | _ => false)
  | .bin op' x' y' => (match o.op with
    | .binOp op _ x y _ => decide (op = op') && cmpX x x' && cmpX y y'
    | _ => false)
  | .eqBool neg x' y' => (match o.op with
    | .binOp op t x y _ => eqOp neg op && isBoolTy P t && cmpX x x' && cmpX y y'
    | _ => false)
  | .eqPtr neg x' y' => (match o.op with
    | .binOp op t x y _ => eqOp neg op && isPtr P t && cmpX x x' && cmpX y y'
    | _ => false)
  | .eqIf neg x' y' => (match o.op with
    | .binOp op t x y _ => eqOp neg op && isIface P t && cmpX x x' && cmpX y y' && (isConstOp x || isConstOp y)
    | _ => false)
  | .eqAgg neg ks x' y' => (match o.op with
    | .binOp op t x y _ => eqOp neg op && isFlat P t ks && cmpX x x' && cmpX y y'
    | _ => false)
  | .not x' => (match o.op with
    | .unOp op _ x => decide (op = .not) && cmpX x x'
    | _ => false)
  | .neg x' => (match o.op with
    | .unOp op _ x => decide (op = .neg) && cmpX x x'
    | _ => false)
  | .convI k x' => (match o.op with
    | .convert s d x => (P.underlying s).isSome && isIntTy P d k && cmpX x x'
    | _ => false)
  | .convU x' => (match o.op with
    | .convert s d x => isPtrU P s d && cmpX x x'
    | _ => false)
  | .convT u n x' => (match o.op with
    | .convert s d x => isPtrT P s d u n && cmpX x x'
    | _ => false)
  | .mm mx x' y' => (match o.op with
    | .call c => isMM mx c.callee && (match c.args.toList with
      | [x, y] => cmpX x x' && cmpX y y'
      | _ => false)
    | _ => false)
  | .assertT t' x' => (match o.op with
    | .typeAssert x _ t true => t == t' && notIface P t && cmpX x x'
    | _ => false)
  | .sliceA n' x' => (match o.op with
    | .slice t x none none none => isArr P t n' && cmpX x x'
    | _ => false)
  | .bstr x' => (match o.op with
    | .convert s d x => isBStr P s d && cmpX x x'
    | _ => false)
  | .eqSl neg x' => (match o.op with
    | .binOp op t x y _ => eqOp neg op && isSliceTy P t && cmpX x x' && isNilSl y
    | _ => false)
  | .mkif t' x' => (match o.op with
    | .makeInterface t x => t == t' && notIface P t && cmpX x x'
    | _ => false)
  | .mkfn f' caps' => (match o.op with
    | .makeFunc (.func f) first caps => f == f' && first.isEmpty && cmpXs caps.toList caps'
    | _ => false)
  | .slice sz x' lo' hi' => (match o.op with
    | .slice t x lo hi none => isSliceOf P t sz && cmpX x x' && cmpXo lo lo' && cmpXo hi hi'
    | _ => false)
  | .sliceS x' lo' hi' => (match o.op with
    | .slice t x lo hi none => isStr P t && cmpX x x' && cmpXo lo lo' && cmpXo hi hi'
    | _ => false)
  | .faddr x' off => (match o.op with
    | .fieldAddr t x f => cmpFaddr P t f off && cmpX x x'
    | _ => false)
  | .field s x' off => (match o.op with
    | .field t x f => cmpField P t f off s && cmpX x x'
    | _ => false)
  | .iaddr sz x' i' => (match o.op with
    | .indexAddr t x i => isSliceOf P t sz && cmpX x x' && cmpX i i'
    | _ => false)
  | .aaddr sz len x' i' => (match o.op with
    | .indexAddr t x i => isArrOf P t sz len && cmpX x x' && cmpX i i'
    | _ => false)
  | .aidx s sz len x' i' => (match o.op with
    | .index t x i => isArrE P t s sz len && cmpX x x' && cmpX i i'
    | _ => false)
  | .index x' i' => (match o.op with
    | .index t x i => isStr P t && cmpX x x' && cmpX i i'
    | _ => false)
  | .extract x' i' => (match o.op with
    | .extract x i => i == i' && cmpX x x'
    | _ => false)
  | .len x' => (match o.op with
    | .call c => isLen c.callee && (match c.argTypes[0]?, c.args.toList with
      | some t, [x] => isSliceTy P t && cmpX x x'
      | _, _ => false)
    | _ => false)
  | .lenS x' => (match o.op with
    | .call c => isLen c.callee && (match c.argTypes[0]?, c.args.toList with
      | some t, [x] => isStr P t && cmpX x x'
      | _, _ => false)
    | _ => false)
  | _ => false

def ER (g : G) (w : World) (env : Env) (tmps : Array Value) : Prop := ∀ t, R g w (look env t) (tmps.getD t Go.undef)

theorem look_R {g : G} {w : World} {env : Env} {tmps : Array Value} (h : ER g w env tmps) (t : Nat) : R g w (look env t) (tmps.getD t Go.undef) := h t

theorem look_putE (t : Nat) (d : D) : ∀ (env : Env) (s : Nat), look (putE env t d) s = if s = t then d else look env s
  | [], s => by
    simp only [putE, look]
    by_cases e : s = t
    · rw [if_pos e, if_pos e.symm]
    · rw [if_neg e, if_neg (fun h => e h.symm)]
  | (k, e) :: r, s => by
    simp only [putE]
    by_cases h1 : k = t
    · subst h1
      simp only [if_pos, look]
      by_cases e : s = k
      · rw [if_pos e, if_pos e.symm]
      · rw [if_neg e, if_neg (fun h => e h.symm), if_neg (fun h => e h.symm)]
    · rw [if_neg h1]
      by_cases h2 : t < k
      · rw [if_pos h2]
        simp only [look]
        by_cases e : s = t
        · rw [if_pos e, if_pos e.symm]
        · rw [if_neg e, if_neg (fun h => e h.symm)]
      · rw [if_neg h2]
        simp only [look]
        rw [look_putE t d r s]
        by_cases h3 : k = s
        · rw [if_pos h3, if_pos h3, if_neg (fun h => h1 (h3.trans h))]
        · rw [if_neg h3, if_neg h3]

theorem look_killE (t : Nat) : ∀ (env : Env) (s : Nat), look (killE env t) s = if s = t then .undef else look env s
  | [], s => by simp [killE, look]
  | (k, e) :: r, s => by
    simp only [killE]
    by_cases h1 : k = t
    · rw [if_pos h1, look_killE t r s]
      simp only [look]
      by_cases e : s = t
      · rw [if_pos e, if_pos e]
      · rw [if_neg e, if_neg e, if_neg (fun h => e (h.symm.trans h1))]
    · rw [if_neg h1]
      simp only [look]
      rw [look_killE t r s]
      by_cases h3 : k = s
      · rw [if_pos h3, if_pos h3, if_neg (fun h => h1 (h3.trans h))]
      · rw [if_neg h3, if_neg h3]

theorem ER.kill {g : G} {w : World} {env : Env} {tmps : Array Value} (h : ER g w env tmps) (t : Nat) : ER g w (killE env t) tmps := fun s => by
  rw [look_killE]
  split
  · simp only [R]
  · exact h s

theorem ER.kills {g : G} {w : World} {tmps : Array Value} : ∀ {ts : List Nat} {env : Env}, ER g w env tmps → ER g w (killsE env ts) tmps
  | [], _, h => h
  | t :: ts, env, h => ER.kills (ts := ts) (ER.kill h t)

end Go.Hl
