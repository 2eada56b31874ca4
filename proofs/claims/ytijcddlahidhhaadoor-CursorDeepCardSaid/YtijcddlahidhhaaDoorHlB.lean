/-
  The small syntax of a function's code, the store of a walk over data, and what the plain operations compute.
-/
import Derived.Test.YtijcddlahidhhaaDoorHlA
set_option linter.unusedSectionVars false
set_option linter.unusedVariables false
namespace Go.Hl
open Go

inductive X where
  | tmp (t : Nat)
  | const (d : D)
  | fn (f : Nat)
  | glob (g : Nat)

inductive HO where
  | kill (ts : List Nat)
  | mv (x : X)
  | pick (c a b : X)
  | alloc (z : List D)
  | allocT (t : Nat) (z : List D)
  | box (x : X)
  | build (z : List D) (ps : List (Nat × Nat × X))
  | bslice (sz : Nat) (z : List (List D)) (ps : List (Nat × X))
  | bvec (sz : Nat) (z : List (List D)) (ps : List (Nat × X))
  | vslice (sz : Nat) (x : X) (hi : X)
  | vappend (sz bytes : Nat) (x y : X)
  | load (sz : Option Nat) (x : X)
  | store (sz : Nat) (a v : X)
  | nilck (x : X)
  | bin (op : BinOp) (x y : X)
  | eqBool (neg : Bool) (x y : X)
  | eqPtr (neg : Bool) (x y : X)
  | eqIf (neg : Bool) (x y : X)
  | not (x : X)
  | neg (x : X)
  | convI (k : IntKind) (x : X)
  | convU (x : X)
  | convT (u n : Nat) (x : X)
  | usd (x : X)
  | mm (mx : Bool) (x y : X)
  | assertT (t : Nat) (x : X)
  | sliceA (n : Nat) (x : X)
  | bstr (x : X)
  | eqSl (neg : Bool) (x : X)
  | eqAgg (neg : Bool) (ks : List Nat) (x y : X)
  | ustr (e : Nat) (x n : X)
  | mkif (t : Nat) (x : X)
  | mkfn (f : Nat) (caps : List X)
  | slice (sz : Nat) (x : X) (lo hi : Option X)
  | sliceS (x : X) (lo hi : Option X)
  | cut (sz : Nat) (x : X) (lo hi mx : X)
  | faddr (x : X) (off : Nat)
  | field (sz : Option Nat) (x : X) (off : Nat)
  | iaddr (sz : Nat) (x i : X)
  | aaddr (sz len : Nat) (x i : X)
  | aidx (s : Option Nat) (sz len : Nat) (x i : X)
  | index (x i : X)
  | extract (x : X) (i : Nat)
  | len (x : X)
  | lenS (x : X)
  | append (e sz bytes : Nat) (x y : X)
  | call (f : X) (args : List X)

structure HI where
  dst : Option Nat
  guard : Option (Nat × Bool)
  op : HO

structure DI where
  dst : Option Nat
  guard : Option (Nat × Bool)
  op : HO
  uses : List (Nat × Nat)
  eff : Bool
  lo : Nat
  hi : Nat
  anc : Nat

inductive HC where
  | skip
  | ret
  | refuse
  | exit (id : Nat)
  | seq (a b : HC)
  | cond (x : X) (a b : HC)
  | block (id : Nat) (c : HC)
  | loop (c : HC)
  | ops (l : List HI)
  | draw (l : List DI)
  | range (f : X) (ps : List Nat) (asg body : HC)

abbrev Env := List (Nat × D)

def look : Env → Nat → D
  | [], _ => .undef
  | (k, d) :: r, t => if k = t then d else look r t

def putE : Env → Nat → D → Env
  | [], t, d => [(t, d)]
  | (k, e) :: r, t, d => if k = t then (t, d) :: r else if t < k then (t, d) :: (k, e) :: r else (k, e) :: putE r t d

def killE : Env → Nat → Env
  | [], _ => []
  | (k, e) :: r, t => if k = t then killE r t else (k, e) :: killE r t

def killsE (env : Env) : List Nat → Env
  | [] => env
  | t :: ts => killsE (killE env t) ts

inductive LSt where
  | ready
  | busy
  | done (j : HC)

inductive Ob where
  | bx (t : Option Nat) (cs : List D)
  | tok (e n : Nat)
  | tokF (e n : Nat)
  | vec (k sz : Nat) (xs : List (List D))
  | loop (nt : Nat) (env : Env) (ps : List Nat) (asg body : HC) (st : LSt)

@[match_pattern] abbrev Ob.box (cs : List D) : Ob := .bx none cs

structure St where
  obj : Nat → Option Ob
  glob : Nat → Option (List D)
  next : Nat

def St.put (σ : St) (id : Nat) (o : Ob) : St := { σ with obj := fun j => if j = id then some o else σ.obj j }
def St.del (σ : St) (id : Nat) : St := { σ with obj := fun j => if j = id then none else σ.obj j }
def St.new (σ : St) (o : Ob) : St := { obj := fun j => if j = σ.next then some o else σ.obj j, glob := σ.glob, next := σ.next + 1 }

theorem St.put_same (σ : St) (id : Nat) (o : Ob) : (σ.put id o).obj id = some o := by simp [St.put]
theorem St.put_ne (σ : St) {id j : Nat} (o : Ob) (h : j ≠ id) : (σ.put id o).obj j = σ.obj j := by simp [St.put, h]
theorem St.new_same (σ : St) (o : Ob) : (σ.new o).obj σ.next = some o := by simp [St.new]
theorem St.new_ne (σ : St) {j : Nat} (o : Ob) (h : j ≠ σ.next) : (σ.new o).obj j = σ.obj j := by simp [St.new, h]

def evX (σ : St) (env : Env) : X → D
  | .tmp t => look env t
  | .const d => d
  | .fn f => .func f []
  | .glob g => match σ.glob g with
    | some cs => .eptr cs 0
    | none => .undef

def cellsD : D → Option (List D)
  | .undef => none
  | .dead => none
  | .tuple _ => none
  | .agg cs => some cs
  | d => some [d]

def rdD (cs : List D) (off : Nat) : Option Nat → Option (D × Prop)
  | none => some (cs.getD off .undef, off < cs.length)
  | some s => some (.agg (if off = 0 ∧ s = cs.length then cs else (cs.drop off).take s), off + s ≤ cs.length)

def wrD (cs : List D) (off : Nat) (vs : List D) : List D :=
  if off = 0 ∧ vs.length = cs.length then vs else cs.take off ++ vs ++ cs.drop (off + vs.length)

def binD (op : BinOp) : D → D → Option (D × Prop)
  | .int k a, .int k' b =>
    match op with
    | .shl => some (.int k (k.wrap (a * 2 ^ (min b.toNat k.bits))), 0 ≤ b)
    | .shr => some (.int k (a.fdiv (2 ^ (min b.toNat k.bits))), 0 ≤ b)
    | .add => some (.int k (k.wrap (a + b)), k = k')
    | .sub => some (.int k (k.wrap (a - b)), k = k')
    | .mul => some (.int k (k.wrap (a * b)), k = k')
    | .quo => some (.int k (k.wrap (a.tdiv b)), k = k' ∧ b ≠ 0)
    | .rem => some (.int k (a.tmod b), k = k' ∧ b ≠ 0)
    | .and => some (.int k (k.wrap (BitVec.ofInt k.bits a &&& BitVec.ofInt k.bits b).toNat), k = k')
    | .or => some (.int k (k.wrap (BitVec.ofInt k.bits a ||| BitVec.ofInt k.bits b).toNat), k = k')
    | .xor => some (.int k (k.wrap (BitVec.ofInt k.bits a ^^^ BitVec.ofInt k.bits b).toNat), k = k')
    | .andNot => some (.int k (k.wrap (BitVec.ofInt k.bits a &&& ~~~ BitVec.ofInt k.bits b).toNat), k = k')
    | .eql => some (.bool (a == b), k = k')
    | .neq => some (.bool (a != b), k = k')
    | .lss => some (.bool (decide (a < b)), k = k')
    | .leq => some (.bool (decide (a ≤ b)), k = k')
    | .gtr => some (.bool (decide (a > b)), k = k')
    | .geq => some (.bool (decide (a ≥ b)), k = k')
  | .str a, .str b =>
    match op with
    | .add => some (.str (a ++ b), a.size + b.size ≤ 9223372036854775807)
    | .eql => some (.bool (decide (a = b)), True)
    | .neq => some (.bool (!decide (a = b)), True)
    | .lss => some (.bool (Op.bytesLess a.toList b.toList), True)
    | .geq => some (.bool (!Op.bytesLess a.toList b.toList), True)
    | _ => none
  | _, _ => none

def nilEqD : D → D → Option (Bool × Prop)
  | .nilp, .nilp => some (true, True)
  | .nilp, .ptr _ _ => some (false, True)
  | .nilp, .eptr _ _ => some (false, True)
  | .ptr _ _, .nilp => some (false, True)
  | .eptr _ _, .nilp => some (false, True)
  | .ptr i o, .ptr j p => some (true, i = j ∧ o = p)
  | _, _ => none

def ifEqD : D → D → Option (Bool × Prop)
  | .nili, .nili => some (true, True)
  | .nili, .iface _ _ => some (false, True)
  | .iface _ _, .nili => some (false, True)
  | _, _ => none

def eqCells : List Nat → List D → List D → Option Bool
  | [], [], [] => some true
  | 0 :: ks, .int k a :: xs, .int k' b :: ys => if k = k' then (eqCells ks xs ys).map fun r => (a == b) && r else none
  | 1 :: ks, .str a :: xs, .str b :: ys => (eqCells ks xs ys).map fun r => decide (a = b) && r
  | 2 :: ks, .bool a :: xs, .bool b :: ys => (eqCells ks xs ys).map fun r => (a == b) && r
  | _, _, _ => none

def boundD (len : Nat) (dflt : Nat) : Option D → Option (Nat × Prop)
  | none => some (dflt, True)
  | some (.int _ i) => some (i.toNat, 0 ≤ i ∧ i ≤ len)
  | _ => none

def sliceSD (x : D) (lo hi : Option D) : Option (D × Prop) :=
  match x with
  | .str s =>
    match boundD s.size s.size hi with
    | some (h, ph) =>
      match boundD h 0 lo with
      | some (l, pl) => some (.str (s.extract l h), ph ∧ pl)
      | none => none
    | none => none
  | _ => none

def sliceD (sz : Nat) (x : D) (lo hi : Option D) : Option (D × Prop) :=
  match x with
  | .slice _ sz' xs =>
    match boundD xs.length xs.length hi with
    | some (h, ph) =>
      match boundD h 0 lo with
      | some (l, pl) => some (.slice .no sz ((xs.take h).drop l), ph ∧ pl ∧ sz' = sz)
      | none => none
    | none => none
  | _ => none

def byteOf : List D → UInt8
  | [.int _ n] => UInt8.ofNat n.toNat
  | _ => 0
def bytesD (xs : List (List D)) : ByteArray := ⟨(xs.map byteOf).toArray⟩
def bytesOk : List (List D) → Prop
  | [] => True
  | x :: xs => (∃ b : UInt8, x = [.int .u8 (b.toNat : Int)]) ∧ bytesOk xs
theorem byteOf_mk (b : UInt8) : byteOf [.int .u8 (b.toNat : Int)] = b := by simp [byteOf]
theorem byteOf_map (l : List UInt8) : (l.map fun b => [D.int .u8 (b.toNat : Int)]).map byteOf = l := by
  rw [List.map_map]
  conv => rhs; rw [← List.map_id l]
  congr 1
  funext b
  exact byteOf_mk b
theorem bytesD_map (l : List UInt8) : bytesD (l.map fun b => [D.int .u8 (b.toNat : Int)]) = ⟨l.toArray⟩ := by unfold bytesD; rw [byteOf_map]
theorem bytesOk_list : ∀ {xs : List (List D)}, bytesOk xs → ∃ l : List UInt8, xs = l.map fun b => [.int .u8 (b.toNat : Int)]
  | [], _ => ⟨[], rfl⟩
  | x :: xs, h => by
    simp only [bytesOk] at h
    obtain ⟨⟨b, rfl⟩, h⟩ := h
    obtain ⟨l, rfl⟩ := bytesOk_list h
    exact ⟨b :: l, rfl⟩

def hval (σ : St) (ev : X → D) : HO → Option (D × Prop)
  | .mv x => some (ev x, True)
  | .pick c a b => match ev c with
    | .bool t => some (if t then ev a else ev b, True)
    | _ => none
  | .load sz x => match ev x with
    | .ptr id off => match σ.obj id with
      | some (.bx _ cs) => rdD cs off sz
      | _ => none
    | .eptr cs off => rdD cs off sz
    | .vptr id k sz1 i off => match σ.obj id with
      | some (.vec k' sz2 xs) => match rdD (xs.getD i []) off sz with
        | some (d, p) => some (d, p ∧ i < xs.length ∧ sz1 = sz2 ∧ k' = k)
        | none => none
      | _ => none
    | _ => none
  | .nilck x => match ev x with
    | .ptr id off => some (.ptr id off, True)
    | .eptr cs off => some (.eptr cs off, True)
    | .vptr id k sz i off => some (.vptr id k sz i off, True)
    | .func f cs => some (.func f cs, True)
    | .yld id => some (.yld id, True)
    | _ => none
  | .bin op x y => binD op (ev x) (ev y)
  | .eqBool neg x y => match ev x, ev y with
    | .bool a, .bool b => some (.bool (neg ^^ (a == b)), True)
    | _, _ => none
  | .eqPtr neg x y => (nilEqD (ev x) (ev y)).map fun b => (.bool (neg ^^ b.1), b.2)
  | .eqIf neg x y => (ifEqD (ev x) (ev y)).map fun b => (.bool (neg ^^ b.1), b.2)
  | .eqAgg neg ks x y => match ev x, ev y with
    | .agg cs, .agg ds => (eqCells ks cs ds).map fun b => (.bool (neg ^^ b), True)
    | _, _ => none
  | .not x => match ev x with
    | .bool b => some (.bool (!b), True)
    | _ => none
  | .neg x => match ev x with
    | .int k n => some (.int k (k.wrap (0 - n)), True)
    | _ => none
  | .convI k x => match ev x with
    | .int _ n => some (.int k (k.wrap n), True)
    | _ => none
  | .convU x => match ev x with
    | .ptr id off => match σ.obj id with
      | some (.bx _ cs) => some (.ptr id off, off < cs.length)
      | _ => none
    | _ => none
  | .convT u n x => match ev x with
    | .ptr id off => match σ.obj id with
      | some (.bx (some t) cs) => some (.ptr id off, t = u ∧ off = 0 ∧ cs.length = n)
      | _ => none
    | _ => none
  | .mm mx x y => match ev x, ev y with
    | .int k a, .int k' b => some (.int k (if mx then (if b > a then b else a) else (if b < a then b else a)), k = k')
    | _, _ => none
  | .mkif t x => some (.iface t (ev x), True)
  | .mkfn f caps => some (.func f (caps.map ev), True)
  | .slice sz x lo hi => sliceD sz (ev x) (lo.map ev) (hi.map ev)
  | .sliceS x lo hi => sliceSD (ev x) (lo.map ev) (hi.map ev)
  | .faddr x off => match ev x with
    | .ptr id o => some (.ptr id (o + off), True)
    | .eptr cs o => some (.eptr cs (o + off), True)
    | .vptr id k sz i o => some (.vptr id k sz i (o + off), True)
    | _ => none
  | .field sz x off => match ev x with
    | .agg cs => rdD cs off sz
    | _ => none
  | .iaddr sz x i => match ev x, ev i with
    | .slice _ sz' xs, .int _ n => some (.eptr (xs.getD n.toNat []) 0, sz' = sz ∧ 0 ≤ n ∧ n < xs.length)
    | .vec id k, .int _ n => match σ.obj id with
      | some (.vec k' sz2 xs) => some (.vptr id k sz n.toNat 0, k' = k ∧ sz2 = sz ∧ 0 ≤ n ∧ n < xs.length)
      | _ => none
    | _, _ => none
  | .aaddr sz len x i => match ev x, ev i with
    | .ptr id o, .int _ n => some (.ptr id (o + n.toNat * sz), 0 ≤ n ∧ n < (len : Int))
    | .eptr cs o, .int _ n => some (.eptr cs (o + n.toNat * sz), 0 ≤ n ∧ n < (len : Int))
    | _, _ => none
  | .aidx s sz len x i => match ev x, ev i with
    | .agg cs, .int _ n => match rdD cs (n.toNat * sz) s with
      | some (d, p) => some (d, p ∧ 0 ≤ n ∧ n < (len : Int))
      | none => none
    | _, _ => none
  | .index x i => match ev x, ev i with
    | .str s, .int _ n => some (.int .u8 ((s.data.getD n.toNat 0).toNat : Int), 0 ≤ n ∧ n < s.size)
    | _, _ => none
  | .extract x i => match ev x with
    | .tuple ds => some (ds.getD i .undef, i < ds.length)
    | _ => none
  | .len x => match ev x with
    | .slice _ _ xs => some (.int .i64 (xs.length : Int), True)
    | .vec id k => match σ.obj id with
      | some (.vec k' _ xs) => some (.int .i64 (xs.length : Int), k' = k)
      | _ => none
    | _ => none
  | .assertT t x => match ev x with
    | .iface t' d => some (.tuple [d, .bool true], t' = t)
    | _ => none
  | .sliceA n x => match ev x with
    | .eptr cs off => some (.slice .no 1 (cs.map fun c => [c]), off = 0 ∧ cs.length = n)
    | _ => none
  | .bstr x => match ev x with
    | .slice _ sz xs => some (.str (bytesD xs), sz = 1 ∧ bytesOk xs)
    | _ => none
  | .lenS x => match ev x with
    | .str s => some (.int .i64 (s.size : Int), True)
    | _ => none
  | _ => none

def srcD : D → Option (Nat × List (List D))
  | .slice _ sz ys => some (sz, ys)
  | .str s => some (1, s.data.toList.map fun b => [.int .u8 (b.toNat : Int)])
  | _ => none

def appendD (σ : St) (e sz bytes : Nat) (x y : D) : Option (D × St × Prop) :=
  match x, srcD y with
  | .slice o sz1 xs, some (sz2, ys) =>
    match o with
    | .no => none
    | .nil => some (.slice .no sz (xs ++ ys), σ,
        (sz1 = sz ∨ xs = []) ∧ sz2 = sz ∧ (xs.length + ys.length) * bytes ≤ 140737488355328 ∧ xs.length + ys.length ≤ 9223372036854775807)
    | .full => some (.slice .no sz (xs ++ ys), σ,
        (sz1 = sz ∨ xs = []) ∧ sz2 = sz ∧ (xs.length + ys.length) * bytes ≤ 140737488355328 ∧ xs.length + ys.length ≤ 9223372036854775807)
    | .tok t => match σ.obj t with
      | some (.tok e' n) => some (.slice (.tok t) sz (xs ++ ys), σ.put t (.tok e' (n + ys.length)),
          e' = e ∧ n = xs.length ∧ sz1 = sz ∧ sz2 = sz ∧ (xs.length + ys.length) * bytes ≤ 140737488355328 ∧ xs.length + ys.length ≤ 9223372036854775807)
      | some (.tokF e' n) => some (.slice (.tok t) sz (xs ++ ys), σ.put t (.tok e' (n + ys.length)),
          e' = e ∧ n = xs.length ∧ sz1 = sz ∧ sz2 = sz ∧ 0 < ys.length ∧ (xs.length + ys.length) * bytes ≤ 140737488355328 ∧ xs.length + ys.length ≤ 9223372036854775807)
      | _ => none
  | _, _ => none

def usdD (σ : St) (x : D) : Option (D × St × Prop) :=
  match x with
  | .slice (.tok t) sz xs => match σ.obj t with
    | some (.tok _ n) => some (.sptr t xs, σ, sz = 1 ∧ n = xs.length)
    | _ => none
  | _ => none

def ustrD (σ : St) (e : Nat) (x n : D) : Option (D × St × Prop) :=
  match x, n with
  | .sptr t xs, .int .i64 m => match σ.obj t with
    | some (.tok e' k) => some (.str (bytesD xs), σ, e' = e ∧ k = xs.length ∧ m = (xs.length : Int) ∧ bytesOk xs ∧ xs.length ≤ 9223372036854775807)
    | _ => none
  | _, _ => none

def vsliceD (σ : St) (sz : Nat) (x hi : D) : Option (D × St × Prop) :=
  match x, hi with
  | .vec id k, .int _ n => match σ.obj id with
    | some (.vec k' sz2 xs) => some (.vec id (k + 1), σ.put id (.vec (k + 1) sz (xs.take n.toNat)), k' = k ∧ sz2 = sz ∧ 0 ≤ n ∧ n ≤ xs.length)
    | _ => none
  | _, _ => none

def vappendD (σ : St) (sz bytes : Nat) (x y : D) : Option (D × St × Prop) :=
  match x, srcD y with
  | .vec id k, some (sz2, ys) => match σ.obj id with
    | some (.vec k' sz1 xs) => some (.vec id (k + 1), σ.put id (.vec (k + 1) sz (xs ++ ys)),
        k' = k ∧ sz1 = sz ∧ sz2 = sz ∧ (xs.length + ys.length) * bytes ≤ 140737488355328 ∧ xs.length + ys.length ≤ 9223372036854775807)
    | _ => none
  | _, _ => none

def fillD (ev : X → D) (sz : Nat) : List (List D) → List (Nat × X) → Option (List (List D) × Prop)
  | z, [] => some (z, True)
  | z, (i, x) :: r => match cellsD (ev x) with
    | some cs => match fillD ev sz (z.set i cs) r with
      | some (xs, p) => some (xs, (cs.length = sz ∧ i < z.length) ∧ p)
      | none => none
    | none => none

def buildD (ev : X → D) : List D → List (Nat × Nat × X) → Option (List D × Prop)
  | z, [] => some (z, True)
  | z, (off, sz, x) :: r => match cellsD (ev x) with
    | some cs => match buildD ev (wrD z off cs) r with
      | some (xs, p) => some (xs, (cs.length = sz ∧ off + sz ≤ z.length) ∧ p)
      | none => none
    | none => none

def storeD (σ : St) (sz : Nat) (a v : D) : Option (D × St × Prop) :=
  match a with
  | .ptr id off => match σ.obj id with
    | some (.bx t cs) => match cellsD v with
      | some vs => some (.undef, σ.put id (.bx t (wrD cs off vs)), vs.length = sz ∧ off + sz ≤ cs.length)
      | none => none
    | _ => none
  | .vptr id k sz1 i off => match σ.obj id with
    | some (.vec k' sz2 xs) => match cellsD v with
      | some vs => some (.undef, σ.put id (.vec k' sz2 (xs.set i (wrD (xs.getD i []) off vs))), vs.length = sz ∧ i < xs.length ∧ off + sz ≤ sz2 ∧ sz1 = sz2 ∧ k' = k)
      | none => none
    | _ => none
  | _ => none

def hstep (σ : St) (ev : X → D) : HO → Option (D × St × Prop)
  | .alloc z => some (.ptr σ.next 0, σ.new (.box z), True)
  | .box x => match cellsD (ev x) with
    | some cs => some (.ptr σ.next 0, σ.new (.box cs), True)
    | none => none
  | .bslice sz z ps => match fillD ev sz z ps with
    | some (xs, p) => some (.slice .full sz xs, σ, p)
    | none => none
  | .bvec sz z ps => match fillD ev sz z ps with
    | some (xs, p) => some (.vec σ.next 0, σ.new (.vec 0 sz xs), p)
    | none => none
  | .vslice sz x hi => vsliceD σ sz (ev x) (ev hi)
  | .vappend sz bytes x y => vappendD σ sz bytes (ev x) (ev y)
  | .build z ps => match buildD ev z ps with
    | some (cs, p) => some (.agg cs, σ, p)
    | none => none
  | .store sz a v => storeD σ sz (ev a) (ev v)
  | .append e sz bytes x y => appendD σ e sz bytes (ev x) (ev y)
  | .allocT t z => some (.ptr σ.next 0, σ.new (.bx (some t) z), True)
  | .usd x => usdD σ (ev x)
  | .ustr e x n => ustrD σ e (ev x) (ev n)
  | h => match hval σ ev h with
    | some (d, p) => some (d, σ, p)
    | none => none

end Go.Hl
