/-
  Data for the values of a walk, and what it means that a value represents data.
-/
import Derived.RangeFuncLeaves
set_option linter.unusedSectionVars false
set_option linter.unusedVariables false
namespace Go.Hl
open Go

inductive Own where
  | no
  | nil
  | full
  | tok (t : Nat)

inductive D where
  | undef
  | dead
  | bool (b : Bool)
  | int (k : IntKind) (n : Int)
  | str (s : ByteArray)
  | nilp
  | ptr (id off : Nat)
  | eptr (cs : List D) (off : Nat)
  | slice (o : Own) (sz : Nat) (xs : List (List D))
  | func (f : Nat) (caps : List D)
  | yld (id : Nat)
  | nilf
  | iface (t : Nat) (d : D)
  | nili
  | agg (cs : List D)
  | tuple (ds : List D)
  | vec (id k : Nat)
  | vptr (id k sz i o : Nat)
  | sptr (t : Nat) (xs : List (List D))

inductive Gh where
  | box (b : Nat)
  | arr (b f n e : Nat)
  | full (n e : Nat)
  | loop (b : Nat)
  | vec (b off len cap k : Nat)

def Gh.fixed : Gh → Bool
  | .box _ => true
  | .loop _ => true
  | _ => false

def Gh.block : Gh → Option Nat
  | .box b => some b
  | .arr b _ _ _ => some b
  | .full _ _ => none
  | .loop b => some b
  | .vec b _ _ _ _ => some b

def Gh.mut (b o : Nat) : Gh → Prop
  | .box b' => b' = b
  | .arr b' f _ _ => b' = b ∧ f ≤ o
  | .full _ _ => False
  | .loop b' => b' = b
  | .vec b' _ _ _ _ => b' = b

theorem Gh.mut_block {h : Gh} {b o : Nat} (hm : h.mut b o) : h.block = some b := by
  cases h <;> simp_all [Gh.mut, Gh.block]

inductive Mv (s : Nat) : Gh → Gh → Prop
  | refl (h : Gh) : Mv s h h
  | arr {b f n e b' f' n' : Nat} : n < n' → (s ≤ b' ∨ (b' = b ∧ f ≤ f')) → Mv s (.arr b f n e) (.arr b' f' n' e)
  | full {n e b' f' n' : Nat} : n < n' → s ≤ b' → Mv s (.full n e) (.arr b' f' n' e)
  | vec {b off len cap k b' off' len' cap' k' : Nat} : k < k' → (s ≤ b' ∨ b' = b) → Mv s (.vec b off len cap k) (.vec b' off' len' cap' k')

theorem Mv.trans {s s1 : Nat} (hs : s ≤ s1) {h h1 h2 : Gh} (a : Mv s h h1) (c : Mv s1 h1 h2) : Mv s h h2 := by
  cases a with
  | refl => 
    cases c with
    | refl => exact .refl _
    | arr h1 h2 => exact .arr h1 (by omega)
    | full h1 h2 => exact .full h1 (by omega)
    | vec h1 h2 => exact .vec h1 (by omega)
  | arr h1 h2 =>
    cases c with
    | refl => exact .arr h1 h2
    | arr k1 k2 => exact .arr (by omega) (by omega)
  | full h1 h2 =>
    cases c with
    | refl => exact .full h1 h2
    | arr k1 k2 => exact .full (by omega) (by omega)
  | vec h1 h2 =>
    cases c with
    | refl => exact .vec h1 h2
    | vec k1 k2 => exact .vec (by omega) (by omega)

theorem Mv.weak {s s1 : Nat} {h h1 : Gh} (a : Mv s h h1) (hs : s1 ≤ s) : Mv s1 h h1 := by
  cases a with
  | refl => exact .refl _
  | arr h1 h2 => exact .arr h1 (by omega)
  | full h1 h2 => exact .full h1 (by omega)
  | vec h1 h2 => exact .vec h1 (by omega)

theorem Mv.block {s : Nat} {h h' : Gh} (m : Mv s h h') {b : Nat} (hb : h'.block = some b) (hl : b < s) : h.block = some b := by
  cases m with
  | refl => exact hb
  | arr h1 h2 => simp only [Gh.block, Option.some.injEq] at hb ⊢; omega
  | full h1 h2 => simp only [Gh.block, Option.some.injEq] at hb; omega
  | vec h1 h2 => simp only [Gh.block, Option.some.injEq] at hb ⊢; omega

theorem Mv.mut {s : Nat} {h h' : Gh} (m : Mv s h h') {b o : Nat} (hb : h'.mut b o) (hl : b < s) : h.mut b o := by
  cases m with
  | refl => exact hb
  | arr h1 h2 => simp only [Gh.mut] at hb ⊢; omega
  | full h1 h2 => simp only [Gh.mut] at hb; omega
  | vec h1 h2 => simp only [Gh.mut] at hb ⊢; omega

structure G where
  at_ : Nat → Option Gh
  next : Nat

def Mut (g : G) (b o : Nat) : Prop := ∃ id h, g.at_ id = some h ∧ h.mut b o

def CellAt (w : World) (b o : Nat) (v : Value) : Prop := ∃ c e z, w.heap[b]? = some (.cells c e z) ∧ c[o]? = some v

def Imm (g : G) (w : World) (b o : Nat) (v : Value) : Prop := CellAt w b o v ∧ ¬ Mut g b o

def TokAt (w : World) (sz len : Nat) (A : Option Addr) (cap : Nat) : Gh → Prop
  | .arr b f n e => len ≤ n ∧ (len = n → ∃ off c z, A = some ⟨b, off, none⟩ ∧ off = 0 ∧ off + len * sz = f ∧ w.heap[b]? = some (.cells c e z) ∧ off + cap * sz ≤ c.size)
  | .full n _ => len ≤ n ∧ (len = n → cap = len ∧ (n = 0 → A = none) ∧ ∀ a, A = some a → a.spot = none)
  | _ => True

def SpAt (v : Value) (len : Nat) : Gh → Prop
  | .arr b f n _ => len ≤ n ∧ (len = n → len ≠ 0 → v = .pointer (some ⟨b, 0, none⟩) ∧ len = f)
  | .full n _ => len ≤ n
  | _ => True

def OwnAt (g : G) (w : World) (sz len : Nat) (A : Option Addr) (cap : Nat) : Own → Prop
  | .no => True
  | .nil => A = none
  | .full => cap = len ∧ ∀ a, A = some a → a.spot = none
  | .tok t => t < g.next ∧ ∀ h, g.at_ t = some h → TokAt w sz len A cap h

def SliceAt (A : Option Addr) (len cap : Nat) : Prop :=
  match A with
  | none => len = 0 ∧ cap = 0
  | some a => a.spot = none ∨ cap = 0

theorem SliceAt.spot {a : Addr} {len cap : Nat} (h : SliceAt (some a) len cap) (hl : len ≤ cap) (hn : 0 < len) : a.spot = none := by
  simp only [SliceAt] at h
  rcases h with h | h
  · exact h
  · omega

mutual
def R (g : G) (w : World) : D → Value → Prop
  | .undef, _ => True
  | .dead, v => v = Go.undef
  | .bool b, v => v = .bool b
  | .int k n, v => v = .int k n
  | .str s, v => v = .string s
  | .nilp, v => v = .pointer none
  | .ptr id off, v => ∃ b, g.at_ id = some (.box b) ∧ v = .pointer (some ⟨b, off, none⟩)
  | .eptr cs off, v => ∃ b o, v = .pointer (some ⟨b, o + off, none⟩) ∧ RM g w cs b o
  | .slice o sz xs, v => ∃ A cap, v = .slice A xs.length cap ∧ xs.length ≤ cap ∧ SliceAt A xs.length cap ∧ OwnAt g w sz xs.length A cap o ∧
      ∀ b off, A = some ⟨b, off, none⟩ → RX g w sz xs b off
  | .func f caps, v => ∃ cv, v = .func (.func f) #[] cv ∧ RL g w caps cv.toList
  | .yld id, v => ∃ l, g.at_ id = some (.loop l) ∧ v = .func (.yield l) #[] #[]
  | .nilf, v => v = .nilFunc
  | .iface t d, v => ∃ u, v = .iface t u ∧ R g w d u
  | .nili, v => v = .nilIface
  | .agg cs, v => ∃ vs, v = .agg vs ∧ RC g w cs vs.toList
  | .tuple ds, v => ∃ vs, v = .tuple vs ∧ RL g w ds vs.toList
  | .vec id k, v => id < g.next ∧ (∃ A l c, v = .slice A l c) ∧ ∀ b off len cap k', g.at_ id = some (.vec b off len cap k') → k ≤ k' ∧ (k' = k → v = .slice (some ⟨b, off, none⟩) len cap)
  | .vptr id k sz i o, v => id < g.next ∧ (∃ b o, v = .pointer (some ⟨b, o, none⟩)) ∧ ∀ b off len cap k', g.at_ id = some (.vec b off len cap k') → k ≤ k' ∧ (k' = k → v = .pointer (some ⟨b, off + i * sz + o, none⟩))
  | .sptr t xs, v => t < g.next ∧ (∃ p, v = .pointer p ∧ (p = none → xs = []) ∧ ∀ a, p = some a → a.spot = none) ∧ (∀ h, g.at_ t = some h → SpAt v xs.length h) ∧ ∀ b off, v = .pointer (some ⟨b, off, none⟩) → RX g w 1 xs b off
def RL (g : G) (w : World) : List D → List Value → Prop
  | [], vs => vs = []
  | d :: ds, vs => ∃ u us, vs = u :: us ∧ R g w d u ∧ RL g w ds us
def RC (g : G) (w : World) : List D → List Value → Prop
  | [], vs => vs = []
  | d :: ds, vs => ∃ u us, vs = u :: us ∧ (u.oneCell' = true ∧ R g w d u) ∧ RC g w ds us
def RM (g : G) (w : World) : List D → Nat → Nat → Prop
  | [], _, _ => True
  | d :: ds, b, o => (∃ u, Imm g w b o u ∧ u.oneCell' = true ∧ R g w d u) ∧ RM g w ds b (o + 1)
def RX (g : G) (w : World) (sz : Nat) : List (List D) → Nat → Nat → Prop
  | [], _, _ => True
  | x :: xs, b, o => x.length = sz ∧ RM g w x b o ∧ RX g w sz xs b (o + sz)
end

structure OS (w w' : World) : Prop where
  os : w'.os = w.os
  tape : w'.tape = w.tape
  output : w'.output = w.output

theorem OS.trans {a b c : World} (h : OS a b) (k : OS b c) : OS a c := ⟨k.os.trans h.os, k.tape.trans h.tape, k.output.trans h.output⟩

structure E (g : G) (w : World) (g' : G) (w' : World) : Prop where
  out : OS w w'
  next : g.next ≤ g'.next
  size : w.heap.size ≤ w'.heap.size
  old : ∀ id h', id < g.next → g'.at_ id = some h' → ∃ h, g.at_ id = some h ∧ Mv w.heap.size h h'
  keep : ∀ id h, g.at_ id = some h → h.fixed = true → g'.at_ id = some h
  new : ∀ id h, g.next ≤ id → g'.at_ id = some h → ∀ b, h.block = some b → w.heap.size ≤ b
  still : ∀ b, b < w.heap.size → (∀ id h, g.at_ id = some h → h.block ≠ some b) → w'.heap[b]? = w.heap[b]?
  arr : ∀ t b f n e0 c e z, g.at_ t = some (.arr b f n e0) → w.heap[b]? = some (.cells c e z) →
    ∃ c' z', w'.heap[b]? = some (.cells c' e z') ∧ c'.size = c.size ∧ ∀ o, o < f → c'[o]? = c[o]?

structure GW (g : G) (w : World) : Prop where
  lt : ∀ id h, g.at_ id = some h → id < g.next
  bl : ∀ id h b, g.at_ id = some h → h.block = some b → b < w.heap.size
  inj : ∀ i j h h' b, g.at_ i = some h → g.at_ j = some h' → h.block = some b → h'.block = some b → i = j
  arr : ∀ t b f n e, g.at_ t = some (.arr b f n e) → ∃ c z, w.heap[b]? = some (.cells c e z) ∧ f ≤ c.size ∧ z.2 ≤ f

theorem E.refl (g : G) (w : World) (hg : GW g w) : E g w g w where
  out := ⟨rfl, rfl, rfl⟩
  next := Nat.le_refl _
  size := Nat.le_refl _
  old := fun _ h _ k => ⟨h, k, .refl _⟩
  keep := fun _ _ h _ => h
  new := fun id h hle ha => absurd (hg.lt id h ha) (by omega)
  still := fun _ _ _ => rfl
  arr := fun _ _ _ _ _ c _ z _ h => ⟨c, z, h, rfl, fun _ _ => rfl⟩

theorem E.trans {g g1 g2 : G} {w w1 w2 : World} (hg : GW g w) (a : E g w g1 w1) (b : E g1 w1 g2 w2) : E g w g2 w2 where
  out := a.out.trans b.out
  next := Nat.le_trans a.next b.next
  size := Nat.le_trans a.size b.size
  old := fun id h2 hlt k2 => by
    obtain ⟨h1, k1, m1⟩ := b.old id h2 (Nat.lt_of_lt_of_le hlt a.next) k2
    obtain ⟨h, k, m⟩ := a.old id h1 hlt k1
    exact ⟨h, k, m.trans a.size m1⟩
  keep := fun id h h0 hn => b.keep id h (a.keep id h h0 hn) hn
  new := fun id h2 hle k2 bb hbb => by
    by_cases hlt : id < g1.next
    · obtain ⟨h1, k1, m1⟩ := b.old id h2 hlt k2
      rcases Nat.lt_or_ge bb w1.heap.size with hl | hl
      · exact a.new id h1 hle k1 bb (m1.block hbb hl)
      · exact Nat.le_trans a.size hl
    · exact Nat.le_trans a.size (b.new id h2 (by omega) k2 bb hbb)
  still := fun b0 hb hu => by
    rw [b.still b0 (Nat.lt_of_lt_of_le hb a.size) ?_, a.still b0 hb hu]
    intro id h h1 hbl
    by_cases hlt : id < g.next
    · obtain ⟨h0, k0, m⟩ := a.old id h hlt h1
      exact hu id h0 k0 (m.block hbl hb)
    · have := a.new id h (by omega) h1 b0 hbl
      omega
  arr := fun t b0 f n e0 c e z ht hc => by
    obtain ⟨c1, z1, h1, hs1, hc1⟩ := a.arr t b0 f n e0 c e z ht hc
    have hb : b0 < w.heap.size := hg.bl t _ b0 ht rfl
    by_cases hu : ∀ id h, g1.at_ id = some h → h.block ≠ some b0
    · exact ⟨c1, z1, by rw [b.still b0 (Nat.lt_of_lt_of_le hb a.size) hu, h1], hs1, hc1⟩
    · simp only [ne_eq, Classical.not_forall, Classical.not_not] at hu
      obtain ⟨id, h, hid, hbl⟩ := hu
      have hf : ∃ f1 n1 e1, h = .arr b0 f1 n1 e1 ∧ f ≤ f1 := by
        by_cases hlt : id < g.next
        · obtain ⟨h0, k0, m⟩ := a.old id h hlt hid
          have hb0 := m.block hbl hb
          have : id = t := hg.inj id t h0 _ b0 k0 ht hb0 rfl
          subst this
          rw [ht] at k0
          injection k0 with k0
          subst k0
          cases m with
          | refl => exact ⟨f, n, e0, rfl, Nat.le_refl _⟩
          | arr q1 q2 =>
            rename_i b' f' n'
            simp only [Gh.block, Option.some.injEq] at hbl
            subst hbl
            exact ⟨f', n', e0, rfl, by omega⟩
        · have := a.new id h (by omega) hid b0 hbl
          omega
      obtain ⟨f1, n1, e1, rfl, hff⟩ := hf
      obtain ⟨c2, z2, h2, hs2, hc2⟩ := b.arr id b0 f1 n1 e1 c1 e z1 hid h1
      exact ⟨c2, z2, h2, by omega, fun o ho => by rw [hc2 o (by omega), hc1 o ho]⟩

theorem lt_of_heap {w : World} {b : Nat} {o : Obj} (h : w.heap[b]? = some o) : b < w.heap.size := by
  rcases Nat.lt_or_ge b w.heap.size with h' | h'
  · exact h'
  · rw [Array.getElem?_eq_none h'] at h; cases h

theorem Imm.mono {g g' : G} {w w' : World} (h : E g w g' w') (hg : GW g w) {b o : Nat} {v : Value} (hi : Imm g w b o v) : Imm g' w' b o v := by
  obtain ⟨⟨c, e, z, hb, hc⟩, hm⟩ := hi
  have hlt : b < w.heap.size := lt_of_heap hb
  have hm' : ¬ Mut g' b o := by
    rintro ⟨id, k, hid, hmut⟩
    by_cases hl : id < g.next
    · obtain ⟨k0, hk0, m⟩ := h.old id k hl hid
      exact hm ⟨id, k0, hk0, m.mut hmut hlt⟩
    · have := h.new id k (by omega) hid b (Gh.mut_block hmut)
      omega
  refine ⟨?_, hm'⟩
  by_cases hu : ∀ id k, g.at_ id = some k → k.block ≠ some b
  · exact ⟨c, e, z, by rw [h.still b hlt hu, hb], hc⟩
  · simp only [ne_eq, Classical.not_forall, Classical.not_not] at hu
    obtain ⟨id, k, hid, hbl⟩ := hu
    cases k with
    | box b' => simp only [Gh.block, Option.some.injEq] at hbl; exact absurd ⟨id, _, hid, hbl⟩ hm
    | full n e => simp [Gh.block] at hbl
    | loop b' => simp only [Gh.block, Option.some.injEq] at hbl; exact absurd ⟨id, _, hid, hbl⟩ hm
    | vec b' off len cap k => simp only [Gh.block, Option.some.injEq] at hbl; exact absurd ⟨id, _, hid, hbl⟩ hm
    | arr b' f n e0 =>
      simp only [Gh.block, Option.some.injEq] at hbl
      subst hbl
      have hof : o < f := by
        rcases Nat.lt_or_ge o f with h | h
        · exact h
        · exact absurd ⟨id, _, hid, rfl, h⟩ hm
      obtain ⟨c', z', hb', _, hc'⟩ := h.arr id b' f n e0 c e z hid hb
      exact ⟨c', e, z', hb', by rw [hc' o hof, hc]⟩

theorem OwnAt.mono {g g' : G} {w w' : World} (h : E g w g' w') {sz len : Nat} {A : Option Addr} {cap : Nat} : ∀ {o : Own}, OwnAt g w sz len A cap o → OwnAt g' w' sz len A cap o
  | .no, _ => trivial
  | .nil, hh => hh
  | .full, hh => hh
  | .tok t, ⟨hlt, hh⟩ => ⟨Nat.lt_of_lt_of_le hlt h.next, fun k ht => by
      obtain ⟨k0, ht0, m⟩ := h.old t _ hlt ht
      have h0 := hh k0 ht0
      cases m with
      | refl =>
        cases k with
        | arr b f n e =>
          refine ⟨h0.1, fun hn => ?_⟩
          obtain ⟨off, c, z, hA, h00, hf, hb, hc⟩ := h0.2 hn
          obtain ⟨c', z', hb', hs, _⟩ := h.arr t b f n e c e z ht0 hb
          exact ⟨off, c', z', hA, h00, hf, hb', by omega⟩
        | full n e => exact h0
        | _ => trivial
      | arr q1 q2 => 
        have := h0.1
        exact ⟨by omega, fun hn => by omega⟩
      | full q1 q2 =>
        have := h0.1
        exact ⟨by omega, fun hn => by omega⟩
      | vec q1 q2 => trivial⟩

structure Ev (g : G) (w : World) (g' : G) (w' : World) : Prop where
  imm : ∀ {b o : Nat} {v : Value}, Imm g w b o v → Imm g' w' b o v
  keep : ∀ id h, g.at_ id = some h → h.fixed = true → g'.at_ id = some h
  next : g.next ≤ g'.next
  old : ∀ id h', id < g.next → g'.at_ id = some h' → ∃ h s, g.at_ id = some h ∧ Mv s h h'
  own : ∀ {sz len : Nat} {A : Option Addr} {cap : Nat} {o : Own}, OwnAt g w sz len A cap o → OwnAt g' w' sz len A cap o

theorem E.ev {g g' : G} {w w' : World} (h : E g w g' w') (hg : GW g w) : Ev g w g' w' :=
  ⟨fun hi => hi.mono h hg, h.keep, h.next, fun id h' hl hh => let ⟨h0, k0, m⟩ := h.old id h' hl hh; ⟨h0, _, k0, m⟩, fun ho => ho.mono h⟩

theorem SpAt.mono {s : Nat} {v : Value} {len : Nat} {h h' : Gh} (m : Mv s h h') (hs : SpAt v len h) : SpAt v len h' := by
  cases m with
  | refl => exact hs
  | arr q1 q2 =>
    have := hs.1
    exact ⟨by omega, fun hn => by omega⟩
  | full q1 q2 =>
    have : len ≤ _ := hs
    exact ⟨by omega, fun hn => by omega⟩
  | vec q1 q2 => trivial

theorem Ev.sp {g g' : G} {w w' : World} (h : Ev g w g' w') {t : Nat} (ht : t < g.next) {v : Value} {len : Nat} (hs : ∀ k, g.at_ t = some k → SpAt v len k) : ∀ k, g'.at_ t = some k → SpAt v len k := fun k hk => by
  obtain ⟨h0, s, k0, m⟩ := h.old t k ht hk
  exact SpAt.mono m (hs h0 k0)

theorem Ev.vec {g g' : G} {w w' : World} (h : Ev g w g' w') {id k : Nat} (hid : id < g.next) {F : Nat → Nat → Nat → Nat → Prop} (hh : ∀ b off len cap k', g.at_ id = some (.vec b off len cap k') → k ≤ k' ∧ (k' = k → F b off len cap)) :
    ∀ b off len cap k', g'.at_ id = some (.vec b off len cap k') → k ≤ k' ∧ (k' = k → F b off len cap) := fun b off len cap k' hb => by
  obtain ⟨h0, s, k0, m⟩ := h.old id _ hid hb
  cases m with
  | refl => exact hh _ _ _ _ _ k0
  | vec q1 q2 =>
    have := (hh _ _ _ _ _ k0).1
    exact ⟨by omega, fun e => by omega⟩

section
variable {g g' : G} {w w' : World} (h : Ev g w g' w')
include h
mutual
theorem R.ev : ∀ (d : D) (v : Value), R g w d v → R g' w' d v
  | .undef, _, _ => by simp only [R]
  | .dead, v, hr => by simpa only [R] using hr
  | .bool b, v, hr => by simpa only [R] using hr
  | .int k n, v, hr => by simpa only [R] using hr
  | .str s, v, hr => by simpa only [R] using hr
  | .nilp, v, hr => by simpa only [R] using hr
  | .ptr id off, v, hr => by
    simp only [R] at hr ⊢
    obtain ⟨b, hb, rfl⟩ := hr
    exact ⟨b, h.keep id _ hb rfl, rfl⟩
  | .eptr cs off, v, hr => by
    simp only [R] at hr ⊢
    obtain ⟨b, o, rfl, hm⟩ := hr
    exact ⟨b, o, rfl, RM.ev cs b o hm⟩
  | .slice o sz xs, v, hr => by
    simp only [R] at hr ⊢
    obtain ⟨A, cap, rfl, hl, hs, ho, hx⟩ := hr
    exact ⟨A, cap, rfl, hl, hs, h.own ho, fun b off hA => RX.ev sz xs b off (hx b off hA)⟩
  | .func f caps, v, hr => by
    simp only [R] at hr ⊢
    obtain ⟨cv, rfl, hl⟩ := hr
    exact ⟨cv, rfl, RL.ev caps _ hl⟩
  | .yld id, v, hr => by
    simp only [R] at hr ⊢
    obtain ⟨l, hl, rfl⟩ := hr
    exact ⟨l, h.keep id _ hl rfl, rfl⟩
  | .nilf, v, hr => by simpa only [R] using hr
  | .iface t d, v, hr => by
    simp only [R] at hr ⊢
    obtain ⟨u, rfl, hu⟩ := hr
    exact ⟨u, rfl, R.ev d u hu⟩
  | .nili, v, hr => by simpa only [R] using hr
  | .agg cs, v, hr => by
    simp only [R] at hr ⊢
    obtain ⟨vs, rfl, hl⟩ := hr
    exact ⟨vs, rfl, RC.ev cs _ hl⟩
  | .tuple ds, v, hr => by
    simp only [R] at hr ⊢
    obtain ⟨vs, rfl, hl⟩ := hr
    exact ⟨vs, rfl, RL.ev ds _ hl⟩
  | .vec id k, v, hr => by
    simp only [R] at hr ⊢
    exact ⟨Nat.lt_of_lt_of_le hr.1 h.next, hr.2.1, h.vec hr.1 hr.2.2⟩
  | .vptr id k sz i o, v, hr => by
    simp only [R] at hr ⊢
    exact ⟨Nat.lt_of_lt_of_le hr.1 h.next, hr.2.1, h.vec hr.1 hr.2.2⟩
  | .sptr t xs, v, hr => by
    simp only [R] at hr ⊢
    exact ⟨Nat.lt_of_lt_of_le hr.1 h.next, hr.2.1, h.sp hr.1 hr.2.2.1, fun b off hv => RX.ev 1 xs b off (hr.2.2.2 b off hv)⟩
theorem RL.ev : ∀ (ds : List D) (vs : List Value), RL g w ds vs → RL g' w' ds vs
  | [], vs, hr => by simpa only [RL] using hr
  | d :: ds, vs, hr => by
    simp only [RL] at hr ⊢
    obtain ⟨u, us, rfl, hu, hl⟩ := hr
    exact ⟨u, us, rfl, R.ev d u hu, RL.ev ds us hl⟩
theorem RC.ev : ∀ (ds : List D) (vs : List Value), RC g w ds vs → RC g' w' ds vs
  | [], vs, hr => by simpa only [RC] using hr
  | d :: ds, vs, hr => by
    simp only [RC] at hr ⊢
    obtain ⟨u, us, rfl, ⟨ho, hu⟩, hl⟩ := hr
    exact ⟨u, us, rfl, ⟨ho, R.ev d u hu⟩, RC.ev ds us hl⟩
theorem RM.ev : ∀ (ds : List D) (b o : Nat), RM g w ds b o → RM g' w' ds b o
  | [], b, o, hr => by simp only [RM]
  | d :: ds, b, o, hr => by
    simp only [RM] at hr ⊢
    obtain ⟨⟨u, hi, ho, hu⟩, hm⟩ := hr
    exact ⟨⟨u, h.imm hi, ho, R.ev d u hu⟩, RM.ev ds b (o + 1) hm⟩
theorem RX.ev (sz : Nat) : ∀ (xs : List (List D)) (b o : Nat), RX g w sz xs b o → RX g' w' sz xs b o
  | [], b, o, hr => by simp only [RX]
  | x :: xs, b, o, hr => by
    simp only [RX] at hr ⊢
    obtain ⟨hs, hm, hx⟩ := hr
    exact ⟨hs, RM.ev x b o hm, RX.ev sz xs b (o + sz) hx⟩
end
end

section
variable {g g' : G} {w w' : World} (h : E g w g' w') (hg : GW g w)
include h hg
theorem R.mono (d : D) (v : Value) (hr : R g w d v) : R g' w' d v := R.ev (h.ev hg) d v hr
theorem RL.mono (ds : List D) (vs : List Value) (hr : RL g w ds vs) : RL g' w' ds vs := RL.ev (h.ev hg) ds vs hr
theorem RC.mono (ds : List D) (vs : List Value) (hr : RC g w ds vs) : RC g' w' ds vs := RC.ev (h.ev hg) ds vs hr
theorem RM.mono (ds : List D) (b o : Nat) (hr : RM g w ds b o) : RM g' w' ds b o := RM.ev (h.ev hg) ds b o hr
theorem RX.mono (sz : Nat) (xs : List (List D)) (b o : Nat) (hr : RX g w sz xs b o) : RX g' w' sz xs b o := RX.ev (h.ev hg) sz xs b o hr
end

end Go.Hl
