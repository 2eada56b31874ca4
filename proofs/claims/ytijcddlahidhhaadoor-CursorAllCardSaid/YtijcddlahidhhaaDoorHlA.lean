/-
  Data for the values of a walk, and what it means that a value represents data.
-/
import Derived.RangeFuncLeaves
import Derived.ArgAppend
set_option linter.unusedSectionVars false
set_option linter.unusedVariables false
namespace Go.Hl
open Go

inductive Own where
  | no
  | nil
  | full
  | tok (t : Nat)

inductive D where
  | undef
  | dead
  | bool (b : Bool)
  | int (k : IntKind) (n : Int)
  | str (s : ByteArray)
  | nilp
  | ptr (id off : Nat)
  | eptr (cs : List D) (off : Nat)
  | slice (o : Own) (sz : Nat) (xs : List (List D))
  | func (f : Nat) (caps : List D)
  | yld (id : Nat)
  | nilf
  | iface (t : Nat) (d : D)
  | nili
  | agg (cs : List D)
  | tuple (ds : List D)
  | vec (id k : Nat)
  | vptr (id k sz i o : Nat)
  | sptr (t : Nat) (xs : List (List D))

inductive Gh where
  | box (b : Nat)
  | arr (b f n e : Nat)
  | full (n e : Nat) (z : Bool)
  | loop (b : Nat)
  | vec (b off len cap k : Nat)

def Gh.fixed : Gh → Bool
  | .box _ => true
  | .loop _ => true
  | _ => false

def Gh.block : Gh → Option Nat
  | .box b => some b
  | .arr b _ _ _ => some b
  | .full _ _ _ => none
  | .loop b => some b
  | .vec b _ _ _ _ => some b

def Gh.mut (b o : Nat) : Gh → Prop
  | .box b' => b' = b
  | .arr b' f _ _ => b' = b ∧ f ≤ o
  | .full _ _ _ => False
  | .loop b' => b' = b
  | .vec b' _ _ _ _ => b' = b

theorem Gh.mut_block {h : Gh} {b o : Nat} (hm : h.mut b o) : h.block = some b := by
  cases h <;> simp_all [Gh.mut, Gh.block]

inductive Mv (s : Nat) : Gh → Gh → Prop
  | refl (h : Gh) : Mv s h h
  | arr {b f n e b' f' n' : Nat} : n < n' → (s ≤ b' ∨ (b' = b ∧ f ≤ f')) → Mv s (.arr b f n e) (.arr b' f' n' e)
  | full {n e b' f' n' : Nat} {z : Bool} : n < n' → s ≤ b' → Mv s (.full n e z) (.arr b' f' n' e)
  | vec {b off len cap k b' off' len' cap' k' : Nat} : k < k' → (s ≤ b' ∨ b' = b) → Mv s (.vec b off len cap k) (.vec b' off' len' cap' k')

theorem Mv.trans {s s1 : Nat} (hs : s ≤ s1) {h h1 h2 : Gh} (a : Mv s h h1) (c : Mv s1 h1 h2) : Mv s h h2 := by
  cases a with
  | refl => 
    cases c with
    | refl => exact .refl _
    | arr h1 h2 => exact .arr h1 (by omega)
    | full h1 h2 => exact .full h1 (by omega)
    | vec h1 h2 => exact .vec h1 (by omega)
  | arr h1 h2 =>
    cases c with
    | refl => exact .arr h1 h2
    | arr k1 k2 => exact .arr (by omega) (by omega)
  | full h1 h2 =>
    cases c with
    | refl => exact .full h1 h2
    | arr k1 k2 => exact .full (by omega) (by omega)
  | vec h1 h2 =>
    cases c with
    | refl => exact .vec h1 h2
    | vec k1 k2 => exact .vec (by omega) (by omega)

theorem Mv.weak {s s1 : Nat} {h h1 : Gh} (a : Mv s h h1) (hs : s1 ≤ s) : Mv s1 h h1 := by
  cases a with
  | refl => exact .refl _
  | arr h1 h2 => exact .arr h1 (by omega)
  | full h1 h2 => exact .full h1 (by omega)
  | vec h1 h2 => exact .vec h1 (by omega)

theorem Mv.block {s : Nat} {h h' : Gh} (m : Mv s h h') {b : Nat} (hb : h'.block = some b) (hl : b < s) : h.block = some b := by
  cases m with
  | refl => exact hb
  | arr h1 h2 => simp only [Gh.block, Option.some.injEq] at hb ⊢; omega
  | full h1 h2 => simp only [Gh.block, Option.some.injEq] at hb; omega
  | vec h1 h2 => simp only [Gh.block, Option.some.injEq] at hb ⊢; omega

theorem Mv.mut {s : Nat} {h h' : Gh} (m : Mv s h h') {b o : Nat} (hb : h'.mut b o) (hl : b < s) : h.mut b o := by
  cases m with
  | refl => exact hb
  | arr h1 h2 => simp only [Gh.mut] at hb ⊢; omega
  | full h1 h2 => simp only [Gh.mut] at hb; omega
  | vec h1 h2 => simp only [Gh.mut] at hb ⊢; omega

structure G where
  at_ : Nat → Option Gh
  next : Nat

def Mut (g : G) (b o : Nat) : Prop := ∃ id h, g.at_ id = some h ∧ h.mut b o

def CellAt (w : World) (b o : Nat) (v : Value) : Prop := ∃ c e z, w.heap[b]? = some (.cells c e z) ∧ c[o]? = some v

def Imm (g : G) (w : World) (b o : Nat) (v : Value) : Prop := CellAt w b o v ∧ ¬ Mut g b o

def TokAt (w : World) (sz len : Nat) (A : Option Addr) (cap : Nat) : Gh → Prop
  | .arr b f n e => len ≤ n ∧ (len = n → ∃ off c z, A = some ⟨b, off, none⟩ ∧ off = 0 ∧ off + len * sz = f ∧ w.heap[b]? = some (.cells c e z) ∧ off + cap * sz ≤ c.size)
  | .full n _ z => len ≤ n ∧ (len = n → cap = len ∧ (z = true → n = 0 → A = none) ∧ ∀ a, A = some a → a.spot = none)
  | _ => True

def SpAt (v : Value) (len : Nat) : Gh → Prop
  | .arr b f n _ => len ≤ n ∧ (len = n → len ≠ 0 → v = .pointer (some ⟨b, 0, none⟩) ∧ len = f)
  | .full n _ _ => len ≤ n
  | _ => True

def OwnAt (g : G) (w : World) (sz len : Nat) (A : Option Addr) (cap : Nat) : Own → Prop
  | .no => True
  | .nil => A = none
  | .full => cap = len ∧ ∀ a, A = some a → a.spot = none
  | .tok t => t < g.next ∧ ∀ h, g.at_ t = some h → TokAt w sz len A cap h

def SliceAt (A : Option Addr) (len cap : Nat) : Prop :=
  match A with
  | none => len = 0 ∧ cap = 0
  | some a => a.spot = none ∨ cap = 0

theorem SliceAt.spot {a : Addr} {len cap : Nat} (h : SliceAt (some a) len cap) (hl : len ≤ cap) (hn : 0 < len) : a.spot = none := by
  simp only [SliceAt] at h
  rcases h with h | h
  · exact h
  · omega

mutual
def R (g : G) (w : World) : D → Value → Prop
  | .undef, _ => True
  | .dead, v => v = Go.undef
  | .bool b, v => v = .bool b
  | .int k n, v => v = .int k n
  | .str s, v => v = .string s
  | .nilp, v => v = .pointer none
  | .ptr id off, v => ∃ b, g.at_ id = some (.box b) ∧ v = .pointer (some ⟨b, off, none⟩)
  | .eptr cs off, v => ∃ b o, v = .pointer (some ⟨b, o + off, none⟩) ∧ RM g w cs b o
  | .slice o sz xs, v => ∃ A cap, v = .slice A xs.length cap ∧ xs.length ≤ cap ∧ SliceAt A xs.length cap ∧ OwnAt g w sz xs.length A cap o ∧
      ∀ b off, A = some ⟨b, off, none⟩ → RX g w sz xs b off
  | .func f caps, v => ∃ cv, v = .func (.func f) #[] cv ∧ RL g w caps cv.toList
  | .yld id, v => ∃ l, g.at_ id = some (.loop l) ∧ v = .func (.yield l) #[] #[]
  | .nilf, v => v = .nilFunc
  | .iface t d, v => ∃ u, v = .iface t u ∧ R g w d u
  | .nili, v => v = .nilIface
  | .agg cs, v => ∃ vs, v = .agg vs ∧ RC g w cs vs.toList
  | .tuple ds, v => ∃ vs, v = .tuple vs ∧ RL g w ds vs.toList
  | .vec id k, v => id < g.next ∧ (∃ A l c, v = .slice A l c) ∧ ∀ b off len cap k', g.at_ id = some (.vec b off len cap k') → k ≤ k' ∧ (k' = k → v = .slice (some ⟨b, off, none⟩) len cap)
  | .vptr id k sz i o, v => id < g.next ∧ (∃ b o, v = .pointer (some ⟨b, o, none⟩)) ∧ ∀ b off len cap k', g.at_ id = some (.vec b off len cap k') → k ≤ k' ∧ (k' = k → v = .pointer (some ⟨b, off + i * sz + o, none⟩))
  | .sptr t xs, v => t < g.next ∧ (∃ p, v = .pointer p ∧ (p = none → xs = []) ∧ ∀ a, p = some a → a.spot = none) ∧ (∀ h, g.at_ t = some h → SpAt v xs.length h) ∧ ∀ b off, v = .pointer (some ⟨b, off, none⟩) → RX g w 1 xs b off
def RL (g : G) (w : World) : List D → List Value → Prop
  | [], vs => vs = []
  | d :: ds, vs => ∃ u us, vs = u :: us ∧ R g w d u ∧ RL g w ds us
def RC (g : G) (w : World) : List D → List Value → Prop
  | [], vs => vs = []
  | d :: ds, vs => ∃ u us, vs = u :: us ∧ (u.oneCell' = true ∧ R g w d u) ∧ RC g w ds us
def RM (g : G) (w : World) : List D → Nat → Nat → Prop
  | [], _, _ => True
  | d :: ds, b, o => (∃ u, Imm g w b o u ∧ u.oneCell' = true ∧ R g w d u) ∧ RM g w ds b (o + 1)
def RX (g : G) (w : World) (sz : Nat) : List (List D) → Nat → Nat → Prop
  | [], _, _ => True
  | x :: xs, b, o => x.length = sz ∧ RM g w x b o ∧ RX g w sz xs b (o + sz)
end

structure OS (w w' : World) : Prop where
  os : w'.os = w.os
  tape : w'.tape = w.tape
  output : w'.output = w.output

theorem OS.trans {a b c : World} (h : OS a b) (k : OS b c) : OS a c := ⟨k.os.trans h.os, k.tape.trans h.tape, k.output.trans h.output⟩

structure E (g : G) (w : World) (g' : G) (w' : World) : Prop where
  out : OS w w'
  next : g.next ≤ g'.next
  size : w.heap.size ≤ w'.heap.size
  old : ∀ id h', id < g.next → g'.at_ id = some h' → ∃ h, g.at_ id = some h ∧ Mv w.heap.size h h'
  keep : ∀ id h, g.at_ id = some h → h.fixed = true → g'.at_ id = some h
  new : ∀ id h, g.next ≤ id → g'.at_ id = some h → ∀ b, h.block = some b → w.heap.size ≤ b
  still : ∀ b, b < w.heap.size → (∀ id h, g.at_ id = some h → h.block ≠ some b) → w'.heap[b]? = w.heap[b]?
  arr : ∀ t b f n e0 c e z, g.at_ t = some (.arr b f n e0) → w.heap[b]? = some (.cells c e z) →
    ∃ c' z', w'.heap[b]? = some (.cells c' e z') ∧ c'.size = c.size ∧ ∀ o, o < f → c'[o]? = c[o]?

structure GW (g : G) (w : World) : Prop where
  lt : ∀ id h, g.at_ id = some h → id < g.next
  bl : ∀ id h b, g.at_ id = some h → h.block = some b → b < w.heap.size
  inj : ∀ i j h h' b, g.at_ i = some h → g.at_ j = some h' → h.block = some b → h'.block = some b → i = j
  arr : ∀ t b f n e, g.at_ t = some (.arr b f n e) → ∃ c z, w.heap[b]? = some (.cells c e z) ∧ f ≤ c.size ∧ z.2 ≤ f

theorem E.refl (g : G) (w : World) (hg : GW g w) : E g w g w where
  out := ⟨rfl, rfl, rfl⟩
  next := Nat.le_refl _
  size := Nat.le_refl _
  old := fun _ h _ k => ⟨h, k, .refl _⟩
  keep := fun _ _ h _ => h
  new := fun id h hle ha => absurd (hg.lt id h ha) (by omega)
  still := fun _ _ _ => rfl
  arr := fun _ _ _ _ _ c _ z _ h => ⟨c, z, h, rfl, fun _ _ => rfl⟩

theorem E.trans {g g1 g2 : G} {w w1 w2 : World} (hg : GW g w) (a : E g w g1 w1) (b : E g1 w1 g2 w2) : E g w g2 w2 where
  out := a.out.trans b.out
  next := Nat.le_trans a.next b.next
  size := Nat.le_trans a.size b.size
  old := fun id h2 hlt k2 => by
    obtain ⟨h1, k1, m1⟩ := b.old id h2 (Nat.lt_of_lt_of_le hlt a.next) k2
    obtain ⟨h, k, m⟩ := a.old id h1 hlt k1
    exact ⟨h, k, m.trans a.size m1⟩
  keep := fun id h h0 hn => b.keep id h (a.keep id h h0 hn) hn
  new := fun id h2 hle k2 bb hbb => by
    by_cases hlt : id < g1.next
    · obtain ⟨h1, k1, m1⟩ := b.old id h2 hlt k2
      rcases Nat.lt_or_ge bb w1.heap.size with hl | hl
      · exact a.new id h1 hle k1 bb (m1.block hbb hl)
      · exact Nat.le_trans a.size hl
    · exact Nat.le_trans a.size (b.new id h2 (by omega) k2 bb hbb)
  still := fun b0 hb hu => by
    rw [b.still b0 (Nat.lt_of_lt_of_le hb a.size) ?_, a.still b0 hb hu]
    intro id h h1 hbl
    by_cases hlt : id < g.next
    · obtain ⟨h0, k0, m⟩ := a.old id h hlt h1
      exact hu id h0 k0 (m.block hbl hb)
    · have := a.new id h (by omega) h1 b0 hbl
      omega
  arr := fun t b0 f n e0 c e z ht hc => by
    obtain ⟨c1, z1, h1, hs1, hc1⟩ := a.arr t b0 f n e0 c e z ht hc
    have hb : b0 < w.heap.size := hg.bl t _ b0 ht rfl
    by_cases hu : ∀ id h, g1.at_ id = some h → h.block ≠ some b0
    · exact ⟨c1, z1, by rw [b.still b0 (Nat.lt_of_lt_of_le hb a.size) hu, h1], hs1, hc1⟩
    · simp only [ne_eq, Classical.not_forall, Classical.not_not] at hu
      obtain ⟨id, h, hid, hbl⟩ := hu
      have hf : ∃ f1 n1 e1, h = .arr b0 f1 n1 e1 ∧ f ≤ f1 := by
        by_cases hlt : id < g.next
        · obtain ⟨h0, k0, m⟩ := a.old id h hlt hid
          have hb0 := m.block hbl hb
          have : id = t := hg.inj id t h0 _ b0 k0 ht hb0 rfl
          subst this
          rw [ht] at k0
          injection k0 with k0
          subst k0
          cases m with
          | refl => exact ⟨f, n, e0, rfl, Nat.le_refl _⟩
          | arr q1 q2 =>
            rename_i b' f' n'
            simp only [Gh.block, Option.some.injEq] at hbl
            subst hbl
            exact ⟨f', n', e0, rfl, by omega⟩
        · have := a.new id h (by omega) hid b0 hbl
          omega
      obtain ⟨f1, n1, e1, rfl, hff⟩ := hf
      obtain ⟨c2, z2, h2, hs2, hc2⟩ := b.arr id b0 f1 n1 e1 c1 e z1 hid h1
      exact ⟨c2, z2, h2, by omega, fun o ho => by rw [hc2 o (by omega), hc1 o ho]⟩

theorem lt_of_heap {w : World} {b : Nat} {o : Obj} (h : w.heap[b]? = some o) : b < w.heap.size := by
  rcases Nat.lt_or_ge b w.heap.size with h' | h'
  · exact h'
  · rw [Array.getElem?_eq_none h'] at h; cases h

theorem Imm.mono {g g' : G} {w w' : World} (h : E g w g' w') (hg : GW g w) {b o : Nat} {v : Value} (hi : Imm g w b o v) : Imm g' w' b o v := by
  obtain ⟨⟨c, e, z, hb, hc⟩, hm⟩ := hi
  have hlt : b < w.heap.size := lt_of_heap hb
  have hm' : ¬ Mut g' b o := by
    rintro ⟨id, k, hid, hmut⟩
    by_cases hl : id < g.next
    · obtain ⟨k0, hk0, m⟩ := h.old id k hl hid
      exact hm ⟨id, k0, hk0, m.mut hmut hlt⟩
    · have := h.new id k (by omega) hid b (Gh.mut_block hmut)
      omega
  refine ⟨?_, hm'⟩
  by_cases hu : ∀ id k, g.at_ id = some k → k.block ≠ some b
  · exact ⟨c, e, z, by rw [h.still b hlt hu, hb], hc⟩
  · simp only [ne_eq, Classical.not_forall, Classical.not_not] at hu
    obtain ⟨id, k, hid, hbl⟩ := hu
    cases k with
    | box b' => simp only [Gh.block, Option.some.injEq] at hbl; exact absurd ⟨id, _, hid, hbl⟩ hm
    | full n e z => simp [Gh.block] at hbl
    | loop b' => simp only [Gh.block, Option.some.injEq] at hbl; exact absurd ⟨id, _, hid, hbl⟩ hm
    | vec b' off len cap k => simp only [Gh.block, Option.some.injEq] at hbl; exact absurd ⟨id, _, hid, hbl⟩ hm
    | arr b' f n e0 =>
      simp only [Gh.block, Option.some.injEq] at hbl
      subst hbl
      have hof : o < f := by
        rcases Nat.lt_or_ge o f with h | h
        · exact h
        · exact absurd ⟨id, _, hid, rfl, h⟩ hm
      obtain ⟨c', z', hb', _, hc'⟩ := h.arr id b' f n e0 c e z hid hb
      exact ⟨c', e, z', hb', by rw [hc' o hof, hc]⟩

theorem OwnAt.mono {g g' : G} {w w' : World} (h : E g w g' w') {sz len : Nat} {A : Option Addr} {cap : Nat} : ∀ {o : Own}, OwnAt g w sz len A cap o → OwnAt g' w' sz len A cap o
  | .no, _ => trivial
  | .nil, hh => hh
  | .full, hh => hh
  | .tok t, ⟨hlt, hh⟩ => ⟨Nat.lt_of_lt_of_le hlt h.next, fun k ht => by
      obtain ⟨k0, ht0, m⟩ := h.old t _ hlt ht
      have h0 := hh k0 ht0
      cases m with
      | refl =>
        cases k with
        | arr b f n e =>
          refine ⟨h0.1, fun hn => ?_⟩
          obtain ⟨off, c, z, hA, h00, hf, hb, hc⟩ := h0.2 hn
          obtain ⟨c', z', hb', hs, _⟩ := h.arr t b f n e c e z ht0 hb
          exact ⟨off, c', z', hA, h00, hf, hb', by omega⟩
        | full n e z => exact h0
        | _ => trivial
      | arr q1 q2 => 
        have := h0.1
        exact ⟨by omega, fun hn => by omega⟩
      | full q1 q2 =>
        have := h0.1
        exact ⟨by omega, fun hn => by omega⟩
      | vec q1 q2 => trivial⟩

structure Ev (g : G) (w : World) (g' : G) (w' : World) : Prop where
  imm : ∀ {b o : Nat} {v : Value}, Imm g w b o v → Imm g' w' b o v
  keep : ∀ id h, g.at_ id = some h → h.fixed = true → g'.at_ id = some h
  next : g.next ≤ g'.next
  old : ∀ id h', id < g.next → g'.at_ id = some h' → ∃ h s, g.at_ id = some h ∧ Mv s h h'
  own : ∀ {sz len : Nat} {A : Option Addr} {cap : Nat} {o : Own}, OwnAt g w sz len A cap o → OwnAt g' w' sz len A cap o

theorem E.ev {g g' : G} {w w' : World} (h : E g w g' w') (hg : GW g w) : Ev g w g' w' :=
  ⟨fun hi => hi.mono h hg, h.keep, h.next, fun id h' hl hh => let ⟨h0, k0, m⟩ := h.old id h' hl hh; ⟨h0, _, k0, m⟩, fun ho => ho.mono h⟩

theorem SpAt.mono {s : Nat} {v : Value} {len : Nat} {h h' : Gh} (m : Mv s h h') (hs : SpAt v len h) : SpAt v len h' := by
  cases m with
  | refl => exact hs
  | arr q1 q2 =>
    have := hs.1
    exact ⟨by omega, fun hn => by omega⟩
  | full q1 q2 =>
    have : len ≤ _ := hs
    exact ⟨by omega, fun hn => by omega⟩
  | vec q1 q2 => trivial

theorem Ev.sp {g g' : G} {w w' : World} (h : Ev g w g' w') {t : Nat} (ht : t < g.next) {v : Value} {len : Nat} (hs : ∀ k, g.at_ t = some k → SpAt v len k) : ∀ k, g'.at_ t = some k → SpAt v len k := fun k hk => by
  obtain ⟨h0, s, k0, m⟩ := h.old t k ht hk
  exact SpAt.mono m (hs h0 k0)

theorem Ev.vec {g g' : G} {w w' : World} (h : Ev g w g' w') {id k : Nat} (hid : id < g.next) {F : Nat → Nat → Nat → Nat → Prop} (hh : ∀ b off len cap k', g.at_ id = some (.vec b off len cap k') → k ≤ k' ∧ (k' = k → F b off len cap)) :
    ∀ b off len cap k', g'.at_ id = some (.vec b off len cap k') → k ≤ k' ∧ (k' = k → F b off len cap) := fun b off len cap k' hb => by
  obtain ⟨h0, s, k0, m⟩ := h.old id _ hid hb
  cases m with
  | refl => exact hh _ _ _ _ _ k0
  | vec q1 q2 =>
    have := (hh _ _ _ _ _ k0).1
    exact ⟨by omega, fun e => by omega⟩

section
variable {g g' : G} {w w' : World} (h : Ev g w g' w')
include h
mutual
theorem R.ev : ∀ (d : D) (v : Value), R g w d v → R g' w' d v
  | .undef, _, _ => by simp only [R]
  | .dead, v, hr => by simpa only [R] using hr
  | .bool b, v, hr => by simpa only [R] using hr
  | .int k n, v, hr => by simpa only [R] using hr
  | .str s, v, hr => by simpa only [R] using hr
  | .nilp, v, hr => by simpa only [R] using hr
  | .ptr id off, v, hr => by
    simp only [R] at hr ⊢
    obtain ⟨b, hb, rfl⟩ := hr
    exact ⟨b, h.keep id _ hb rfl, rfl⟩
  | .eptr cs off, v, hr => by
    simp only [R] at hr ⊢
    obtain ⟨b, o, rfl, hm⟩ := hr
    exact ⟨b, o, rfl, RM.ev cs b o hm⟩
  | .slice o sz xs, v, hr => by
    simp only [R] at hr ⊢
    obtain ⟨A, cap, rfl, hl, hs, ho, hx⟩ := hr
    exact ⟨A, cap, rfl, hl, hs, h.own ho, fun b off hA => RX.ev sz xs b off (hx b off hA)⟩
  | .func f caps, v, hr => by
    simp only [R] at hr ⊢
    obtain ⟨cv, rfl, hl⟩ := hr
    exact ⟨cv, rfl, RL.ev caps _ hl⟩
  | .yld id, v, hr => by
    simp only [R] at hr ⊢
    obtain ⟨l, hl, rfl⟩ := hr
    exact ⟨l, h.keep id _ hl rfl, rfl⟩
  | .nilf, v, hr => by simpa only [R] using hr
  | .iface t d, v, hr => by
    simp only [R] at hr ⊢
    obtain ⟨u, rfl, hu⟩ := hr
    exact ⟨u, rfl, R.ev d u hu⟩
  | .nili, v, hr => by simpa only [R] using hr
  | .agg cs, v, hr => by
    simp only [R] at hr ⊢
    obtain ⟨vs, rfl, hl⟩ := hr
    exact ⟨vs, rfl, RC.ev cs _ hl⟩
  | .tuple ds, v, hr => by
    simp only [R] at hr ⊢
    obtain ⟨vs, rfl, hl⟩ := hr
    exact ⟨vs, rfl, RL.ev ds _ hl⟩
  | .vec id k, v, hr => by
    simp only [R] at hr ⊢
    exact ⟨Nat.lt_of_lt_of_le hr.1 h.next, hr.2.1, h.vec hr.1 hr.2.2⟩
  | .vptr id k sz i o, v, hr => by
    simp only [R] at hr ⊢
    exact ⟨Nat.lt_of_lt_of_le hr.1 h.next, hr.2.1, h.vec hr.1 hr.2.2⟩
  | .sptr t xs, v, hr => by
    simp only [R] at hr ⊢
    exact ⟨Nat.lt_of_lt_of_le hr.1 h.next, hr.2.1, h.sp hr.1 hr.2.2.1, fun b off hv => RX.ev 1 xs b off (hr.2.2.2 b off hv)⟩
theorem RL.ev : ∀ (ds : List D) (vs : List Value), RL g w ds vs → RL g' w' ds vs
  | [], vs, hr => by simpa only [RL] using hr
  | d :: ds, vs, hr => by
    simp only [RL] at hr ⊢
    obtain ⟨u, us, rfl, hu, hl⟩ := hr
    exact ⟨u, us, rfl, R.ev d u hu, RL.ev ds us hl⟩
theorem RC.ev : ∀ (ds : List D) (vs : List Value), RC g w ds vs → RC g' w' ds vs
  | [], vs, hr => by simpa only [RC] using hr
  | d :: ds, vs, hr => by
    simp only [RC] at hr ⊢
    obtain ⟨u, us, rfl, ⟨ho, hu⟩, hl⟩ := hr
    exact ⟨u, us, rfl, ⟨ho, R.ev d u hu⟩, RC.ev ds us hl⟩
theorem RM.ev : ∀ (ds : List D) (b o : Nat), RM g w ds b o → RM g' w' ds b o
  | [], b, o, hr => by simp only [RM]
  | d :: ds, b, o, hr => by
    simp only [RM] at hr ⊢
    obtain ⟨⟨u, hi, ho, hu⟩, hm⟩ := hr
    exact ⟨⟨u, h.imm hi, ho, R.ev d u hu⟩, RM.ev ds b (o + 1) hm⟩
theorem RX.ev (sz : Nat) : ∀ (xs : List (List D)) (b o : Nat), RX g w sz xs b o → RX g' w' sz xs b o
  | [], b, o, hr => by simp only [RX]
  | x :: xs, b, o, hr => by
    simp only [RX] at hr ⊢
    obtain ⟨hs, hm, hx⟩ := hr
    exact ⟨hs, RM.ev x b o hm, RX.ev sz xs b (o + sz) hx⟩
end
end

section
variable {g g' : G} {w w' : World} (h : E g w g' w') (hg : GW g w)
include h hg
theorem R.mono (d : D) (v : Value) (hr : R g w d v) : R g' w' d v := R.ev (h.ev hg) d v hr
theorem RL.mono (ds : List D) (vs : List Value) (hr : RL g w ds vs) : RL g' w' ds vs := RL.ev (h.ev hg) ds vs hr
theorem RC.mono (ds : List D) (vs : List Value) (hr : RC g w ds vs) : RC g' w' ds vs := RC.ev (h.ev hg) ds vs hr
theorem RM.mono (ds : List D) (b o : Nat) (hr : RM g w ds b o) : RM g' w' ds b o := RM.ev (h.ev hg) ds b o hr
theorem RX.mono (sz : Nat) (xs : List (List D)) (b o : Nat) (hr : RX g w sz xs b o) : RX g' w' sz xs b o := RX.ev (h.ev hg) sz xs b o hr
end

end Go.Hl
set_option linter.unusedSectionVars false
set_option linter.unusedVariables false
namespace Go.Hl
open Go

inductive X where
  | tmp (t : Nat)
  | const (d : D)
  | fn (f : Nat)
  | glob (g : Nat)

inductive HO where
  | kill (ts : List Nat)
  | mv (x : X)
  | pick (c a b : X)
  | alloc (z : List D)
  | allocT (t : Nat) (z : List D)
  | box (x : X)
  | build (z : List D) (ps : List (Nat × Nat × X))
  | bslice (sz : Nat) (z : List (List D)) (ps : List (Nat × X))
  | bvec (sz : Nat) (z : List (List D)) (ps : List (Nat × X))
  | vslice (sz : Nat) (x : X) (hi : X)
  | vappend (sz bytes : Nat) (x y : X)
  | load (sz : Option Nat) (x : X)
  | store (sz : Nat) (a v : X)
  | nilck (x : X)
  | bin (op : BinOp) (x y : X)
  | eqBool (neg : Bool) (x y : X)
  | eqPtr (neg : Bool) (x y : X)
  | eqIf (neg : Bool) (x y : X)
  | not (x : X)
  | neg (x : X)
  | convI (k : IntKind) (x : X)
  | convU (x : X)
  | convT (u n : Nat) (x : X)
  | usd (x : X)
  | mm (mx : Bool) (x y : X)
  | assertT (t : Nat) (x : X)
  | sliceA (n : Nat) (x : X)
  | bstr (x : X)
  | eqSl (neg : Bool) (x : X)
  | eqAgg (neg : Bool) (ks : List Nat) (x y : X)
  | ustr (e : Nat) (x n : X)
  | mkif (t : Nat) (x : X)
  | mkfn (f : Nat) (caps : List X)
  | slice (sz : Nat) (x : X) (lo hi : Option X)
  | sliceS (x : X) (lo hi : Option X)
  | cut (sz : Nat) (x : X) (lo hi mx : X)
  | faddr (x : X) (off : Nat)
  | field (sz : Option Nat) (x : X) (off : Nat)
  | iaddr (sz : Nat) (x i : X)
  | aaddr (sz len : Nat) (x i : X)
  | aidx (s : Option Nat) (sz len : Nat) (x i : X)
  | index (x i : X)
  | extract (x : X) (i : Nat)
  | len (x : X)
  | lenS (x : X)
  | append (e sz bytes : Nat) (x y : X)
  | call (f : X) (args : List X)

structure HI where
  dst : Option Nat
  guard : Option (Nat × Bool)
  op : HO

structure DI where
  dst : Option Nat
  guard : Option (Nat × Bool)
  op : HO
  uses : List (Nat × Nat)
  eff : Bool
  lo : Nat
  hi : Nat
  anc : Nat

inductive HC where
  | skip
  | ret
  | refuse
  | exit (id : Nat)
  | seq (a b : HC)
  | cond (x : X) (a b : HC)
  | block (id : Nat) (c : HC)
  | loop (c : HC)
  | ops (l : List HI)
  | draw (l : List DI)
  | range (f : X) (ps : List Nat) (asg body : HC)

abbrev Env := List (Nat × D)

def look : Env → Nat → D
  | [], _ => .undef
  | (k, d) :: r, t => if k = t then d else look r t

def putE : Env → Nat → D → Env
  | [], t, d => [(t, d)]
  | (k, e) :: r, t, d => if k = t then (t, d) :: r else if t < k then (t, d) :: (k, e) :: r else (k, e) :: putE r t d

def killE : Env → Nat → Env
  | [], _ => []
  | (k, e) :: r, t => if k = t then killE r t else (k, e) :: killE r t

def killsE (env : Env) : List Nat → Env
  | [] => env
  | t :: ts => killsE (killE env t) ts

inductive LSt where
  | ready
  | busy
  | done (j : HC)

inductive Ob where
  | bx (t : Option Nat) (cs : List D)
  | tok (e n : Nat)
  | tokF (e n : Nat)
  | vec (k sz : Nat) (xs : List (List D))
  | loop (nt : Nat) (env : Env) (ps : List Nat) (asg body : HC) (st : LSt)

@[match_pattern] abbrev Ob.box (cs : List D) : Ob := .bx none cs

structure St where
  obj : Nat → Option Ob
  glob : Nat → Option (List D)
  next : Nat

def St.put (σ : St) (id : Nat) (o : Ob) : St := { σ with obj := fun j => if j = id then some o else σ.obj j }
def St.del (σ : St) (id : Nat) : St := { σ with obj := fun j => if j = id then none else σ.obj j }
def St.new (σ : St) (o : Ob) : St := { obj := fun j => if j = σ.next then some o else σ.obj j, glob := σ.glob, next := σ.next + 1 }

theorem St.put_same (σ : St) (id : Nat) (o : Ob) : (σ.put id o).obj id = some o := by simp [St.put]
theorem St.put_ne (σ : St) {id j : Nat} (o : Ob) (h : j ≠ id) : (σ.put id o).obj j = σ.obj j := by simp [St.put, h]
theorem St.new_same (σ : St) (o : Ob) : (σ.new o).obj σ.next = some o := by simp [St.new]
theorem St.new_ne (σ : St) {j : Nat} (o : Ob) (h : j ≠ σ.next) : (σ.new o).obj j = σ.obj j := by simp [St.new, h]

def evX (σ : St) (env : Env) : X → D
  | .tmp t => look env t
  | .const d => d
  | .fn f => .func f []
  | .glob g => match σ.glob g with
    | some cs => .eptr cs 0
    | none => .undef

def cellsD : D → Option (List D)
  | .undef => none
  | .dead => none
  | .tuple _ => none
  | .agg cs => some cs
  | d => some [d]

def rdD (cs : List D) (off : Nat) : Option Nat → Option (D × Prop)
  | none => some (cs.getD off .undef, off < cs.length)
  | some s => some (.agg (if off = 0 ∧ s = cs.length then cs else (cs.drop off).take s), off + s ≤ cs.length)

def wrD (cs : List D) (off : Nat) (vs : List D) : List D :=
  if off = 0 ∧ vs.length = cs.length then vs else cs.take off ++ vs ++ cs.drop (off + vs.length)

def binD (op : BinOp) : D → D → Option (D × Prop)
  | .int k a, .int k' b =>
    match op with
    | .shl => some (.int k (k.wrap (a * 2 ^ (min b.toNat k.bits))), 0 ≤ b)
    | .shr => some (.int k (a.fdiv (2 ^ (min b.toNat k.bits))), 0 ≤ b)
    | .add => some (.int k (k.wrap (a + b)), k = k')
    | .sub => some (.int k (k.wrap (a - b)), k = k')
    | .mul => some (.int k (k.wrap (a * b)), k = k')
    | .quo => some (.int k (k.wrap (a.tdiv b)), k = k' ∧ b ≠ 0)
    | .rem => some (.int k (a.tmod b), k = k' ∧ b ≠ 0)
    | .and => some (.int k (k.wrap (BitVec.ofInt k.bits a &&& BitVec.ofInt k.bits b).toNat), k = k')
    | .or => some (.int k (k.wrap (BitVec.ofInt k.bits a ||| BitVec.ofInt k.bits b).toNat), k = k')
    | .xor => some (.int k (k.wrap (BitVec.ofInt k.bits a ^^^ BitVec.ofInt k.bits b).toNat), k = k')
    | .andNot => some (.int k (k.wrap (BitVec.ofInt k.bits a &&& ~~~ BitVec.ofInt k.bits b).toNat), k = k')
    | .eql => some (.bool (a == b), k = k')
    | .neq => some (.bool (a != b), k = k')
    | .lss => some (.bool (decide (a < b)), k = k')
    | .leq => some (.bool (decide (a ≤ b)), k = k')
    | .gtr => some (.bool (decide (a > b)), k = k')
    | .geq => some (.bool (decide (a ≥ b)), k = k')
  | .str a, .str b =>
    match op with
    | .add => some (.str (a ++ b), a.size + b.size ≤ 9223372036854775807)
    | .eql => some (.bool (decide (a = b)), True)
    | .neq => some (.bool (!decide (a = b)), True)
    | .lss => some (.bool (Op.bytesLess a.toList b.toList), True)
    | .geq => some (.bool (!Op.bytesLess a.toList b.toList), True)
    | _ => none
  | _, _ => none

def nilEqD : D → D → Option (Bool × Prop)
  | .nilp, .nilp => some (true, True)
  | .nilp, .ptr _ _ => some (false, True)
  | .nilp, .eptr _ _ => some (false, True)
  | .ptr _ _, .nilp => some (false, True)
  | .eptr _ _, .nilp => some (false, True)
  | .ptr i o, .ptr j p => some (true, i = j ∧ o = p)
  | _, _ => none

def ifEqD : D → D → Option (Bool × Prop)
  | .nili, .nili => some (true, True)
  | .nili, .iface _ _ => some (false, True)
  | .iface _ _, .nili => some (false, True)
  | _, _ => none

def eqCells : List Nat → List D → List D → Option Bool
  | [], [], [] => some true
  | 0 :: ks, .int k a :: xs, .int k' b :: ys => if k = k' then (eqCells ks xs ys).map fun r => (a == b) && r else none
  | 1 :: ks, .str a :: xs, .str b :: ys => (eqCells ks xs ys).map fun r => decide (a = b) && r
  | 2 :: ks, .bool a :: xs, .bool b :: ys => (eqCells ks xs ys).map fun r => (a == b) && r
  | _, _, _ => none

def boundD (len : Nat) (dflt : Nat) : Option D → Option (Nat × Prop)
  | none => some (dflt, True)
  | some (.int _ i) => some (i.toNat, 0 ≤ i ∧ i ≤ len)
  | _ => none

def sliceSD (x : D) (lo hi : Option D) : Option (D × Prop) :=
  match x with
  | .str s =>
    match boundD s.size s.size hi with
    | some (h, ph) =>
      match boundD h 0 lo with
      | some (l, pl) => some (.str (s.extract l h), ph ∧ pl)
      | none => none
    | none => none
  | _ => none

def sliceD (sz : Nat) (x : D) (lo hi : Option D) : Option (D × Prop) :=
  match x with
  | .slice _ sz' xs =>
    match boundD xs.length xs.length hi with
    | some (h, ph) =>
      match boundD h 0 lo with
      | some (l, pl) => some (.slice .no sz ((xs.take h).drop l), ph ∧ pl ∧ sz' = sz)
      | none => none
    | none => none
  | _ => none

def byteOf : List D → UInt8
  | [.int _ n] => UInt8.ofNat n.toNat
  | _ => 0
def bytesD (xs : List (List D)) : ByteArray := ⟨(xs.map byteOf).toArray⟩
def bytesOk : List (List D) → Prop
  | [] => True
  | x :: xs => (∃ b : UInt8, x = [.int .u8 (b.toNat : Int)]) ∧ bytesOk xs
theorem byteOf_mk (b : UInt8) : byteOf [.int .u8 (b.toNat : Int)] = b := by simp [byteOf]
theorem byteOf_map (l : List UInt8) : (l.map fun b => [D.int .u8 (b.toNat : Int)]).map byteOf = l := by
  rw [List.map_map]
  conv => rhs; rw [← List.map_id l]
  congr 1
  funext b
  exact byteOf_mk b
theorem bytesD_map (l : List UInt8) : bytesD (l.map fun b => [D.int .u8 (b.toNat : Int)]) = ⟨l.toArray⟩ := by unfold bytesD; rw [byteOf_map]
theorem bytesOk_list : ∀ {xs : List (List D)}, bytesOk xs → ∃ l : List UInt8, xs = l.map fun b => [.int .u8 (b.toNat : Int)]
  | [], _ => ⟨[], rfl⟩
  | x :: xs, h => by
    simp only [bytesOk] at h
    obtain ⟨⟨b, rfl⟩, h⟩ := h
    obtain ⟨l, rfl⟩ := bytesOk_list h
    exact ⟨b :: l, rfl⟩

def hval (σ : St) (ev : X → D) : HO → Option (D × Prop)
  | .mv x => some (ev x, True)
  | .pick c a b => match ev c with
    | .bool t => some (if t then ev a else ev b, True)
    | _ => none
  | .load sz x => match ev x with
    | .ptr id off => match σ.obj id with
      | some (.bx _ cs) => rdD cs off sz
      | _ => none
    | .eptr cs off => rdD cs off sz
    | .vptr id k sz1 i off => match σ.obj id with
      | some (.vec k' sz2 xs) => match rdD (xs.getD i []) off sz with
        | some (d, p) => some (d, p ∧ i < xs.length ∧ sz1 = sz2 ∧ k' = k)
        | none => none
      | _ => none
    | _ => none
  | .nilck x => match ev x with
    | .ptr id off => some (.ptr id off, True)
    | .eptr cs off => some (.eptr cs off, True)
    | .vptr id k sz i off => some (.vptr id k sz i off, True)
    | .func f cs => some (.func f cs, True)
    | .yld id => some (.yld id, True)
    | _ => none
  | .bin op x y => binD op (ev x) (ev y)
  | .eqBool neg x y => match ev x, ev y with
    | .bool a, .bool b => some (.bool (neg ^^ (a == b)), True)
    | _, _ => none
  | .eqPtr neg x y => (nilEqD (ev x) (ev y)).map fun b => (.bool (neg ^^ b.1), b.2)
  | .eqIf neg x y => (ifEqD (ev x) (ev y)).map fun b => (.bool (neg ^^ b.1), b.2)
  | .eqAgg neg ks x y => match ev x, ev y with
    | .agg cs, .agg ds => (eqCells ks cs ds).map fun b => (.bool (neg ^^ b), True)
    | _, _ => none
  | .not x => match ev x with
    | .bool b => some (.bool (!b), True)
    | _ => none
  | .neg x => match ev x with
    | .int k n => some (.int k (k.wrap (0 - n)), True)
    | _ => none
  | .convI k x => match ev x with
    | .int _ n => some (.int k (k.wrap n), True)
    | _ => none
  | .convU x => match ev x with
    | .ptr id off => match σ.obj id with
      | some (.bx _ cs) => some (.ptr id off, off < cs.length)
      | _ => none
    | _ => none
  | .convT u n x => match ev x with
    | .ptr id off => match σ.obj id with
      | some (.bx (some t) cs) => some (.ptr id off, t = u ∧ off = 0 ∧ cs.length = n)
      | _ => none
    | _ => none
  | .mm mx x y => match ev x, ev y with
    | .int k a, .int k' b => some (.int k (if mx then (if b > a then b else a) else (if b < a then b else a)), k = k')
    | _, _ => none
  | .mkif t x => some (.iface t (ev x), True)
  | .mkfn f caps => some (.func f (caps.map ev), True)
  | .slice sz x lo hi => sliceD sz (ev x) (lo.map ev) (hi.map ev)
  | .sliceS x lo hi => sliceSD (ev x) (lo.map ev) (hi.map ev)
  | .faddr x off => match ev x with
    | .ptr id o => some (.ptr id (o + off), True)
    | .eptr cs o => some (.eptr cs (o + off), True)
    | .vptr id k sz i o => some (.vptr id k sz i (o + off), True)
    | _ => none
  | .field sz x off => match ev x with
    | .agg cs => rdD cs off sz
    | _ => none
  | .iaddr sz x i => match ev x, ev i with
    | .slice _ sz' xs, .int _ n => some (.eptr (xs.getD n.toNat []) 0, sz' = sz ∧ 0 ≤ n ∧ n < xs.length)
    | .vec id k, .int _ n => match σ.obj id with
      | some (.vec k' sz2 xs) => some (.vptr id k sz n.toNat 0, k' = k ∧ sz2 = sz ∧ 0 ≤ n ∧ n < xs.length)
      | _ => none
    | _, _ => none
  | .aaddr sz len x i => match ev x, ev i with
    | .ptr id o, .int _ n => some (.ptr id (o + n.toNat * sz), 0 ≤ n ∧ n < (len : Int))
    | .eptr cs o, .int _ n => some (.eptr cs (o + n.toNat * sz), 0 ≤ n ∧ n < (len : Int))
    | _, _ => none
  | .aidx s sz len x i => match ev x, ev i with
    | .agg cs, .int _ n => match rdD cs (n.toNat * sz) s with
      | some (d, p) => some (d, p ∧ 0 ≤ n ∧ n < (len : Int))
      | none => none
    | _, _ => none
  | .index x i => match ev x, ev i with
    | .str s, .int _ n => some (.int .u8 ((s.data.getD n.toNat 0).toNat : Int), 0 ≤ n ∧ n < s.size)
    | _, _ => none
  | .extract x i => match ev x with
    | .tuple ds => some (ds.getD i .undef, i < ds.length)
    | _ => none
  | .len x => match ev x with
    | .slice _ _ xs => some (.int .i64 (xs.length : Int), True)
    | .vec id k => match σ.obj id with
      | some (.vec k' _ xs) => some (.int .i64 (xs.length : Int), k' = k)
      | _ => none
    | _ => none
  | .assertT t x => match ev x with
    | .iface t' d => some (.tuple [d, .bool true], t' = t)
    | _ => none
  | .sliceA n x => match ev x with
    | .eptr cs off => some (.slice .no 1 (cs.map fun c => [c]), off = 0 ∧ cs.length = n)
    | _ => none
  | .bstr x => match ev x with
    | .slice _ sz xs => some (.str (bytesD xs), sz = 1 ∧ bytesOk xs)
    | _ => none
  | .lenS x => match ev x with
    | .str s => some (.int .i64 (s.size : Int), True)
    | _ => none
  | _ => none

def srcD : D → Option (Nat × List (List D))
  | .slice _ sz ys => some (sz, ys)
  | .str s => some (1, s.data.toList.map fun b => [.int .u8 (b.toNat : Int)])
  | _ => none

def appendD (σ : St) (e sz bytes : Nat) (x y : D) : Option (D × St × Prop) :=
  match x, srcD y with
  | .slice o sz1 xs, some (sz2, ys) =>
    match o with
    | .no => none
    | .nil => some (.slice .no sz (xs ++ ys), σ,
        (sz1 = sz ∨ xs = []) ∧ sz2 = sz ∧ (xs.length + ys.length) * bytes ≤ 140737488355328 ∧ xs.length + ys.length ≤ 9223372036854775807)
    | .full => some (.slice .no sz (xs ++ ys), σ,
        (sz1 = sz ∨ xs = []) ∧ sz2 = sz ∧ (xs.length + ys.length) * bytes ≤ 140737488355328 ∧ xs.length + ys.length ≤ 9223372036854775807)
    | .tok t => match σ.obj t with
      | some (.tok e' n) => some (.slice (.tok t) sz (xs ++ ys), σ.put t (.tok e' (n + ys.length)),
          e' = e ∧ n = xs.length ∧ sz1 = sz ∧ sz2 = sz ∧ (xs.length + ys.length) * bytes ≤ 140737488355328 ∧ xs.length + ys.length ≤ 9223372036854775807)
      | some (.tokF e' n) => some (.slice (.tok t) sz (xs ++ ys), σ.put t (.tok e' (n + ys.length)),
          e' = e ∧ n = xs.length ∧ sz1 = sz ∧ sz2 = sz ∧ 0 < ys.length ∧ (xs.length + ys.length) * bytes ≤ 140737488355328 ∧ xs.length + ys.length ≤ 9223372036854775807)
      | _ => none
  | _, _ => none

def usdD (σ : St) (x : D) : Option (D × St × Prop) :=
  match x with
  | .slice (.tok t) sz xs => match σ.obj t with
    | some (.tok _ n) => some (.sptr t xs, σ, sz = 1 ∧ n = xs.length)
    | _ => none
  | _ => none

def ustrD (σ : St) (e : Nat) (x n : D) : Option (D × St × Prop) :=
  match x, n with
  | .sptr t xs, .int .i64 m => match σ.obj t with
    | some (.tok e' k) => some (.str (bytesD xs), σ, e' = e ∧ k = xs.length ∧ m = (xs.length : Int) ∧ bytesOk xs ∧ xs.length ≤ 9223372036854775807)
    | _ => none
  | _, _ => none

def vsliceD (σ : St) (sz : Nat) (x hi : D) : Option (D × St × Prop) :=
  match x, hi with
  | .vec id k, .int _ n => match σ.obj id with
    | some (.vec k' sz2 xs) => some (.vec id (k + 1), σ.put id (.vec (k + 1) sz (xs.take n.toNat)), k' = k ∧ sz2 = sz ∧ 0 ≤ n ∧ n ≤ xs.length)
    | _ => none
  | _, _ => none

def vappendD (σ : St) (sz bytes : Nat) (x y : D) : Option (D × St × Prop) :=
  match x, srcD y with
  | .vec id k, some (sz2, ys) => match σ.obj id with
    | some (.vec k' sz1 xs) => some (.vec id (k + 1), σ.put id (.vec (k + 1) sz (xs ++ ys)),
        k' = k ∧ sz1 = sz ∧ sz2 = sz ∧ (xs.length + ys.length) * bytes ≤ 140737488355328 ∧ xs.length + ys.length ≤ 9223372036854775807)
    | _ => none
  | _, _ => none

def fillD (ev : X → D) (sz : Nat) : List (List D) → List (Nat × X) → Option (List (List D) × Prop)
  | z, [] => some (z, True)
  | z, (i, x) :: r => match cellsD (ev x) with
    | some cs => match fillD ev sz (z.set i cs) r with
      | some (xs, p) => some (xs, (cs.length = sz ∧ i < z.length) ∧ p)
      | none => none
    | none => none

def buildD (ev : X → D) : List D → List (Nat × Nat × X) → Option (List D × Prop)
  | z, [] => some (z, True)
  | z, (off, sz, x) :: r => match cellsD (ev x) with
    | some cs => match buildD ev (wrD z off cs) r with
      | some (xs, p) => some (xs, (cs.length = sz ∧ off + sz ≤ z.length) ∧ p)
      | none => none
    | none => none

def storeD (σ : St) (sz : Nat) (a v : D) : Option (D × St × Prop) :=
  match a with
  | .ptr id off => match σ.obj id with
    | some (.bx t cs) => match cellsD v with
      | some vs => some (.undef, σ.put id (.bx t (wrD cs off vs)), vs.length = sz ∧ off + sz ≤ cs.length)
      | none => none
    | _ => none
  | .vptr id k sz1 i off => match σ.obj id with
    | some (.vec k' sz2 xs) => match cellsD v with
      | some vs => some (.undef, σ.put id (.vec k' sz2 (xs.set i (wrD (xs.getD i []) off vs))), vs.length = sz ∧ i < xs.length ∧ off + sz ≤ sz2 ∧ sz1 = sz2 ∧ k' = k)
      | none => none
    | _ => none
  | _ => none

def hstep (σ : St) (ev : X → D) : HO → Option (D × St × Prop)
  | .alloc z => some (.ptr σ.next 0, σ.new (.box z), True)
  | .box x => match cellsD (ev x) with
    | some cs => some (.ptr σ.next 0, σ.new (.box cs), True)
    | none => none
  | .bslice sz z ps => match fillD ev sz z ps with
    | some (xs, p) => some (.slice .full sz xs, σ, p)
    | none => none
  | .bvec sz z ps => match fillD ev sz z ps with
    | some (xs, p) => some (.vec σ.next 0, σ.new (.vec 0 sz xs), p)
    | none => none
  | .vslice sz x hi => vsliceD σ sz (ev x) (ev hi)
  | .vappend sz bytes x y => vappendD σ sz bytes (ev x) (ev y)
  | .build z ps => match buildD ev z ps with
    | some (cs, p) => some (.agg cs, σ, p)
    | none => none
  | .store sz a v => storeD σ sz (ev a) (ev v)
  | .append e sz bytes x y => appendD σ e sz bytes (ev x) (ev y)
  | .allocT t z => some (.ptr σ.next 0, σ.new (.bx (some t) z), True)
  | .usd x => usdD σ (ev x)
  | .ustr e x n => ustrD σ e (ev x) (ev n)
  | h => match hval σ ev h with
    | some (d, p) => some (d, σ, p)
    | none => none

end Go.Hl
set_option linter.unusedSectionVars false
set_option linter.unusedVariables false
namespace Go.Hl
open Go

mutual
def cmpV : D → Value → Bool
  | .bool b, .bool b' => b == b'
  | .int k n, .int k' n' => decide (k = k') && n == n'
  | .str s, .string s' => decide (s.data.toList = s'.data.toList)
  | .nilp, .pointer none => true
  | .slice .nil _ [], .slice none 0 0 => true
  | .func f [], .func (.func f') first caps => f == f' && first.toList.isEmpty && caps.toList.isEmpty
  | .nilf, .nilFunc => true
  | .iface t d, .iface t' v => t == t' && cmpV d v
  | .nili, .nilIface => true
  | .agg cs, .agg vs => cmpVs cs vs.toList
  | _, _ => false
def cmpVs : List D → List Value → Bool
  | [], [] => true
  | d :: ds, v :: vs => cmpV d v && v.oneCell' && cmpVs ds vs
  | _, _ => false
end

mutual
theorem cmpV_R (g : G) (w : World) : ∀ (d : D) (v : Value), cmpV d v = true → R g w d v
  | .undef, v, h => by simp only [R]
  | .dead, v, h => by cases v <;> simp_all [cmpV]
  | .bool b, v, h => by cases v <;> simp_all [cmpV, R]
  | .int k n, v, h => by cases v <;> simp_all [cmpV, R]
  | .str s, v, h => by
    cases v <;> simp only [cmpV, Bool.false_eq_true, decide_eq_true_eq] at h
    rename_i s'
    obtain ⟨⟨l⟩⟩ := s
    obtain ⟨⟨l'⟩⟩ := s'
    simp only at h
    subst h
    simp only [R]
  | .nilp, v, h => by cases v <;> simp_all [cmpV, R]; rename_i a; cases a <;> simp_all [cmpV]
  | .ptr id off, v, h => by cases v <;> simp_all [cmpV]
  | .eptr cs off, v, h => by cases v <;> simp_all [cmpV]
  | .slice o sz xs, v, h => by
    cases v <;> try (cases o <;> cases xs <;> simp [cmpV] at h; done)
    rename_i a len cap
    cases o <;> cases xs <;> cases a <;> (try simp [cmpV] at h)
    cases len <;> cases cap <;> (try simp [cmpV] at h)
    simp only [R]
    exact ⟨none, 0, rfl, Nat.le_refl _, ⟨rfl, rfl⟩, rfl, fun b off hA => by cases hA⟩
  | .func f caps, v, h => by
    cases v <;> try (cases caps <;> simp [cmpV] at h; done)
    rename_i fn first cap
    obtain ⟨l⟩ := first
    obtain ⟨l'⟩ := cap
    cases caps <;> cases fn <;> simp only [cmpV, Bool.false_eq_true, Bool.and_eq_true, beq_iff_eq, List.isEmpty_iff] at h
    obtain ⟨⟨rfl, rfl⟩, rfl⟩ := h
    simp [R, RL]
  | .yld id, v, h => by cases v <;> simp_all [cmpV]
  | .nilf, v, h => by cases v <;> simp_all [cmpV, R]
  | .iface t d, v, h => by
    cases v <;> simp only [cmpV, Bool.false_eq_true, Bool.and_eq_true, beq_iff_eq] at h
    simp only [R]
    obtain ⟨rfl, h⟩ := h
    exact ⟨_, rfl, cmpV_R g w d _ h⟩
  | .nili, v, h => by cases v <;> simp_all [cmpV, R]
  | .agg cs, v, h => by
    cases v <;> simp only [cmpV, Bool.false_eq_true] at h
    simp only [R]
    exact ⟨_, rfl, cmpVs_RC g w cs _ h⟩
  | .tuple ds, v, h => by cases v <;> simp_all [cmpV]
  | .vec id k, v, h => by cases v <;> simp_all [cmpV]
  | .vptr id k sz i o, v, h => by cases v <;> simp_all [cmpV]
  | .sptr t xs, v, h => by cases v <;> simp_all [cmpV]
theorem cmpVs_RC (g : G) (w : World) : ∀ (ds : List D) (vs : List Value), cmpVs ds vs = true → RC g w ds vs
  | [], vs, h => by cases vs <;> simp_all [cmpVs, RC]
  | d :: ds, vs, h => by
    cases vs with
    | nil => simp [cmpVs] at h
    | cons v vs =>
      simp only [cmpVs, Bool.and_eq_true] at h
      simp only [RC]
      exact ⟨v, vs, rfl, ⟨h.1.2, cmpV_R g w d v h.1.1⟩, cmpVs_RC g w ds vs h.2⟩
end

def tyCells (P : Program) (t : TypeId) : Option Nat := (P.info? t).map (·.size)
def tyBytes (P : Program) (t : TypeId) : Option Nat := (P.info? t).map (·.bytes)
def tyAgg (P : Program) (t : TypeId) : Option Bool := (P.underlying t).map fun d => match d with
  | .struct _ | .array _ _ => true
  | _ => false
def cmpShape (P : Program) (t : TypeId) (s : Option Nat) : Bool :=
  match tyAgg P t, s with
  | some false, none => true
  | some true, some n => tyCells P t == some n
  | _, _ => false
def cmpZero (P : Program) (t : TypeId) (z : List D) : Bool :=
  match (P.info? t).bind (·.zero) with
  | some v => cmpVs z v.cells.toList
  | none => false
def isSliceOf (P : Program) (t : TypeId) (sz : Nat) : Bool :=
  match P.underlying t with
  | some (.slice e) => tyCells P e == some sz
  | _ => false
def isArrOf (P : Program) (t : TypeId) (sz len : Nat) : Bool :=
  match P.underlying t with
  | some (.array m e) => m == len && tyCells P e == some sz
  | _ => false
def isArrE (P : Program) (t : TypeId) (s : Option Nat) (sz len : Nat) : Bool :=
  match P.underlying t with
  | some (.array m e) => m == len && tyCells P e == some sz && cmpShape P e s
  | _ => false
def isStr (P : Program) (t : TypeId) : Bool :=
  match P.underlying t with
  | some .string => true
  | _ => false
def fieldOf (P : Program) (t : TypeId) (f : Nat) : Option Field :=
  match P.underlying t with
  | some (.struct fs) => fs[f]?
  | _ => none
def isPtr (P : Program) (t : TypeId) : Bool :=
  match P.underlying t with
  | some (.pointer e) => (P.info? e).isSome
  | _ => false
def isBStr (P : Program) (s d : TypeId) : Bool :=
  match P.underlying s, P.underlying d with
  | some (.slice e), some .string => (match P.underlying e with | some (.int .u8) => true | _ => false)
  | _, _ => false
def isPtrU (P : Program) (s d : TypeId) : Bool :=
  match P.underlying s, P.underlying d with
  | some (.pointer e), some .unsafePointer => (match P.info? e with | some i => decide (i.size ≠ 0) | none => false)
  | _, _ => false
def isPtrT (P : Program) (s d u n : TypeId) : Bool :=
  match P.underlying s, P.underlying d with
  | some .unsafePointer, some (.pointer e) => e == u && (P.info? e).isSome && liesAt P P.depth e (n / P.cellsOf e) 0 e 1
  | _, _ => false
def isMM (mx : Bool) : Callee → Bool
  | .builtin .max => mx
  | .builtin .min => !mx
  | _ => false
def isNilSl : Operand → Bool
  | .const (.slice none 0 0) => true
  | _ => false
def isIface (P : Program) (t : TypeId) : Bool :=
  match P.underlying t with
  | some (.interface _) => true
  | _ => false

def scalK (P : Program) (t : TypeId) : Nat → Bool
  | 0 => (match P.underlying t with | some (.int _) => true | _ => false)
  | 1 => (match P.underlying t with | some .string => true | _ => false)
  | 2 => (match P.underlying t with | some .bool => true | _ => false)
  | _ => false
def flatF (P : Program) : List Field → List Nat → Nat → Bool
  | [], [], _ => true
  | f :: fs, k :: ks, i => f.name != "_" && f.offset == i && scalK P f.type k && flatF P fs ks (i + 1)
  | _, _, _ => false
def isFlat (P : Program) (t : TypeId) (ks : List Nat) : Bool :=
  match P.underlying t with
  | some (.struct fs) => !P.stoodInHeld t && !P.eqGuardType P.depth t && flatF P fs.toList ks 0
  | _ => false

def cmpX : Operand → X → Bool
  | .tmp t, .tmp t' => t == t'
  | .const v, .const d => cmpV d v
  | .func f, .fn f' => f == f'
  | .global g, .glob g' => g == g'
  | _, _ => false
def cmpXs : List Operand → List X → Bool
  | [], [] => true
  | a :: as, b :: bs => cmpX a b && cmpXs as bs
  | _, _ => false
def cmpXo : Option Operand → Option X → Bool
  | none, none => true
  | some a, some b => cmpX a b
  | _, _ => false

def isConstOp : Operand → Bool
  | .const _ => true
  | _ => false

def cmpParts (P : Program) (fs : Array Field) : List (Nat × Operand) → List (Nat × Nat × X) → Bool
  | [], [] => true
  | (i, x) :: ps, (off, sz, x') :: ps' => (match fs[i]? with
      | some f => f.offset == off && tyCells P f.type == some sz
      | none => false) && cmpX x x' && cmpParts P fs ps ps'
  | _, _ => false
def cmpPartsA (sz : Nat) : List (Nat × Operand) → List (Nat × Nat × X) → Bool
  | [], [] => true
  | (i, x) :: ps, (off, sz', x') :: ps' => i * sz == off && sz' == sz && cmpX x x' && cmpPartsA sz ps ps'
  | _, _ => false
def cmpParts2 : List (Nat × Operand) → List (Nat × X) → Bool
  | [], [] => true
  | (i, x) :: ps, (j, x') :: ps' => i == j && cmpX x x' && cmpParts2 ps ps'
  | _, _ => false

def isBoolTy (P : Program) (t : TypeId) : Bool :=
  match P.underlying t with
  | some .bool => true
  | _ => false
def isSliceTy (P : Program) (t : TypeId) : Bool :=
  match P.underlying t with
  | some (.slice _) => true
  | _ => false
def isIntTy (P : Program) (t : TypeId) (k : IntKind) : Bool :=
  match P.underlying t with
  | some (.int k') => decide (k = k')
  | _ => false
def isArr (P : Program) (t : TypeId) (n : Nat) : Bool :=
  match P.underlying t with
  | some (.array m e) => m == n && tyCells P e == some 1
  | _ => false
def notIface (P : Program) (t : TypeId) : Bool :=
  match P.underlying t with
  | some (.interface _) => false
  | some _ => true
  | none => false
def eqOp (neg : Bool) (op : BinOp) : Bool := if neg then decide (op = .neq) else decide (op = .eql)
def cmpFaddr (P : Program) (t : TypeId) (f off : Nat) : Bool :=
  match fieldOf P t f with
  | some fl => fl.offset == off && (match tyCells P fl.type with | some (_ + 1) => true | _ => false)
  | none => false
def cmpField (P : Program) (t : TypeId) (f off : Nat) (s : Option Nat) : Bool :=
  match fieldOf P t f with
  | some fl => fl.offset == off && cmpShape P fl.type s
  | none => false
def isLen : Callee → Bool
  | .builtin .len => true
  | _ => false

def cmpHV (P : Program) (o : Oper) (h : HO) : Bool :=
  match h with
  | .mv x' => (match o.op with
    | .move x => cmpX x x'
    | .assign x => cmpX x x'
    | _ => false)
  | .pick c' a' b' => (match o.op with
    | .pick c a b => cmpX c c' && cmpX a a' && cmpX b b'
    | _ => false)
  | .load s x' => (match o.op with
    | .load t x => cmpShape P t s && cmpX x x'
    | _ => false)
  | .nilck x' => (match o.op with
    | .nilCheck x => cmpX x x'
    | _ => false)
  | .bin op' x' y' => (match o.op with
    | .binOp op _ x y _ => decide (op = op') && cmpX x x' && cmpX y y'
    | _ => false)
  | .eqBool neg x' y' => (match o.op with
    | .binOp op t x y _ => eqOp neg op && isBoolTy P t && cmpX x x' && cmpX y y'
    | _ => false)
  | .eqPtr neg x' y' => (match o.op with
    | .binOp op t x y _ => eqOp neg op && isPtr P t && cmpX x x' && cmpX y y'
    | _ => false)
  | .eqIf neg x' y' => (match o.op with
    | .binOp op t x y _ => eqOp neg op && isIface P t && cmpX x x' && cmpX y y' && (isConstOp x || isConstOp y)
    | _ => false)
  | .eqAgg neg ks x' y' => (match o.op with
    | .binOp op t x y _ => eqOp neg op && isFlat P t ks && cmpX x x' && cmpX y y'
    | _ => false)
  | .not x' => (match o.op with
    | .unOp op _ x => decide (op = .not) && cmpX x x'
    | _ => false)
  | .neg x' => (match o.op with
    | .unOp op _ x => decide (op = .neg) && cmpX x x'
    | _ => false)
  | .convI k x' => (match o.op with
    | .convert s d x => (P.underlying s).isSome && isIntTy P d k && cmpX x x'
    | _ => false)
  | .convU x' => (match o.op with
    | .convert s d x => isPtrU P s d && cmpX x x'
    | _ => false)
  | .convT u n x' => (match o.op with
    | .convert s d x => isPtrT P s d u n && cmpX x x'
    | _ => false)
  | .mm mx x' y' => (match o.op with
    | .call c => isMM mx c.callee && (match c.args.toList with
      | [x, y] => cmpX x x' && cmpX y y'
      | _ => false)
    | _ => false)
  | .assertT t' x' => (match o.op with
    | .typeAssert x _ t true => t == t' && notIface P t && cmpX x x'
    | _ => false)
  | .sliceA n' x' => (match o.op with
    | .slice t x none none none => isArr P t n' && cmpX x x'
    | _ => false)
  | .bstr x' => (match o.op with
    | .convert s d x => isBStr P s d && cmpX x x'
    | _ => false)
  | .eqSl neg x' => (match o.op with
    | .binOp op t x y _ => eqOp neg op && isSliceTy P t && cmpX x x' && isNilSl y
    | _ => false)
  | .mkif t' x' => (match o.op with
    | .makeInterface t x => t == t' && notIface P t && cmpX x x'
    | _ => false)
  | .mkfn f' caps' => (match o.op with
    | .makeFunc (.func f) first caps => f == f' && first.isEmpty && cmpXs caps.toList caps'
    | _ => false)
  | .slice sz x' lo' hi' => (match o.op with
    | .slice t x lo hi none => isSliceOf P t sz && cmpX x x' && cmpXo lo lo' && cmpXo hi hi'
    | _ => false)
  | .sliceS x' lo' hi' => (match o.op with
    | .slice t x lo hi none => isStr P t && cmpX x x' && cmpXo lo lo' && cmpXo hi hi'
    | _ => false)
  | .faddr x' off => (match o.op with
    | .fieldAddr t x f => cmpFaddr P t f off && cmpX x x'
    | _ => false)
  | .field s x' off => (match o.op with
    | .field t x f => cmpField P t f off s && cmpX x x'
    | _ => false)
  | .iaddr sz x' i' => (match o.op with
    | .indexAddr t x i => isSliceOf P t sz && cmpX x x' && cmpX i i'
    | _ => false)
  | .aaddr sz len x' i' => (match o.op with
    | .indexAddr t x i => isArrOf P t sz len && cmpX x x' && cmpX i i'
    | _ => false)
  | .aidx s sz len x' i' => (match o.op with
    | .index t x i => isArrE P t s sz len && cmpX x x' && cmpX i i'
    | _ => false)
  | .index x' i' => (match o.op with
    | .index t x i => isStr P t && cmpX x x' && cmpX i i'
    | _ => false)
  | .extract x' i' => (match o.op with
    | .extract x i => i == i' && cmpX x x'
    | _ => false)
  | .len x' => (match o.op with
    | .call c => isLen c.callee && (match c.argTypes[0]?, c.args.toList with
      | some t, [x] => isSliceTy P t && cmpX x x'
      | _, _ => false)
    | _ => false)
  | .lenS x' => (match o.op with
    | .call c => isLen c.callee && (match c.argTypes[0]?, c.args.toList with
      | some t, [x] => isStr P t && cmpX x x'
      | _, _ => false)
    | _ => false)
  | _ => false

def ER (g : G) (w : World) (env : Env) (tmps : Array Value) : Prop := ∀ t, R g w (look env t) (tmps.getD t Go.undef)

theorem look_R {g : G} {w : World} {env : Env} {tmps : Array Value} (h : ER g w env tmps) (t : Nat) : R g w (look env t) (tmps.getD t Go.undef) := h t

theorem look_putE (t : Nat) (d : D) : ∀ (env : Env) (s : Nat), look (putE env t d) s = if s = t then d else look env s
  | [], s => by
    simp only [putE, look]
    by_cases e : s = t
    · rw [if_pos e, if_pos e.symm]
    · rw [if_neg e, if_neg (fun h => e h.symm)]
  | (k, e) :: r, s => by
    simp only [putE]
    by_cases h1 : k = t
    · subst h1
      simp only [if_pos, look]
      by_cases e : s = k
      · rw [if_pos e, if_pos e.symm]
      · rw [if_neg e, if_neg (fun h => e h.symm), if_neg (fun h => e h.symm)]
    · rw [if_neg h1]
      by_cases h2 : t < k
      · rw [if_pos h2]
        simp only [look]
        by_cases e : s = t
        · rw [if_pos e, if_pos e.symm]
        · rw [if_neg e, if_neg (fun h => e h.symm)]
      · rw [if_neg h2]
        simp only [look]
        rw [look_putE t d r s]
        by_cases h3 : k = s
        · rw [if_pos h3, if_pos h3, if_neg (fun h => h1 (h3.trans h))]
        · rw [if_neg h3, if_neg h3]

theorem look_killE (t : Nat) : ∀ (env : Env) (s : Nat), look (killE env t) s = if s = t then .undef else look env s
  | [], s => by simp [killE, look]
  | (k, e) :: r, s => by
    simp only [killE]
    by_cases h1 : k = t
    · rw [if_pos h1, look_killE t r s]
      simp only [look]
      by_cases e : s = t
      · rw [if_pos e, if_pos e]
      · rw [if_neg e, if_neg e, if_neg (fun h => e (h.symm.trans h1))]
    · rw [if_neg h1]
      simp only [look]
      rw [look_killE t r s]
      by_cases h3 : k = s
      · rw [if_pos h3, if_pos h3, if_neg (fun h => h1 (h3.trans h))]
      · rw [if_neg h3, if_neg h3]

theorem ER.kill {g : G} {w : World} {env : Env} {tmps : Array Value} (h : ER g w env tmps) (t : Nat) : ER g w (killE env t) tmps := fun s => by
  rw [look_killE]
  split
  · simp only [R]
  · exact h s

theorem ER.kills {g : G} {w : World} {tmps : Array Value} : ∀ {ts : List Nat} {env : Env}, ER g w env tmps → ER g w (killsE env ts) tmps
  | [], _, h => h
  | t :: ts, env, h => ER.kills (ts := ts) (ER.kill h t)

end Go.Hl
