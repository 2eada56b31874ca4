/-
  Less may be known: objects that nothing names any more are dropped, the right to append is given up.
-/
import Derived.Test.YtijcddlahidhhaaDoorHlF
set_option linter.unusedSectionVars false
set_option linter.unusedVariables false
namespace Go.Hl
open Go

def Own.lt (n : Nat) : Own → Prop
  | .tok t => t < n
  | _ => True

mutual
def D.lt (n : Nat) : D → Prop
  | .ptr id _ => id < n
  | .yld id => id < n
  | .vec id _ => id < n
  | .vptr id _ _ _ _ => id < n
  | .sptr t xs => t < n ∧ ltX n xs
  | .eptr cs _ => ltL n cs
  | .slice o _ xs => o.lt n ∧ ltX n xs
  | .func _ caps => ltL n caps
  | .iface _ d => D.lt n d
  | .agg cs => ltL n cs
  | .tuple ds => ltL n ds
  | _ => True
def ltL (n : Nat) : List D → Prop
  | [] => True
  | d :: ds => D.lt n d ∧ ltL n ds
def ltX (n : Nat) : List (List D) → Prop
  | [] => True
  | x :: xs => ltL n x ∧ ltX n xs
end

mutual
def stripD : D → D
  | .slice _ sz xs => .slice .no sz xs
  | .agg cs => .agg (stripL cs)
  | .tuple ds => .tuple (stripL ds)
  | .iface t d => .iface t (stripD d)
  | .undef => .undef
  | .dead => .dead
  | .bool b => .bool b
  | .int k n => .int k n
  | .str s => .str s
  | .nilp => .nilp
  | .ptr id off => .ptr id off
  | .eptr cs off => .eptr cs off
  | .func f caps => .func f caps
  | .yld id => .yld id
  | .nilf => .nilf
  | .nili => .nili
  | .vec id k => .vec id k
  | .vptr id k sz i o => .vptr id k sz i o
  | .sptr t xs => .sptr t xs
def stripL : List D → List D
  | [] => []
  | d :: ds => stripD d :: stripL ds
end

section
variable {g : G} {w : World}
mutual
theorem R_strip : ∀ (d : D) (v : Value), R g w d v → R g w (stripD d) v
  | .slice o sz xs, v, h => R_no h
  | .agg cs, v, h => by
    simp only [R, stripD] at h ⊢
    obtain ⟨vs, rfl, hl⟩ := h
    exact ⟨vs, rfl, RC_strip cs _ hl⟩
  | .tuple ds, v, h => by
    simp only [R, stripD] at h ⊢
    obtain ⟨vs, rfl, hl⟩ := h
    exact ⟨vs, rfl, RL_strip ds _ hl⟩
  | .iface t d, v, h => by
    simp only [R, stripD] at h ⊢
    obtain ⟨u, rfl, hu⟩ := h
    exact ⟨u, rfl, R_strip d u hu⟩
  | .undef, v, h => by simpa only [stripD] using h
  | .dead, v, h => by simpa only [stripD] using h
  | .bool b, v, h => by simpa only [stripD] using h
  | .int k n, v, h => by simpa only [stripD] using h
  | .str s, v, h => by simpa only [stripD] using h
  | .nilp, v, h => by simpa only [stripD] using h
  | .ptr id off, v, h => by simpa only [stripD] using h
  | .eptr cs off, v, h => by simpa only [stripD] using h
  | .func f caps, v, h => by simpa only [stripD] using h
  | .yld id, v, h => by simpa only [stripD] using h
  | .nilf, v, h => by simpa only [stripD] using h
  | .nili, v, h => by simpa only [stripD] using h
  | .vec id k, v, h => by simpa only [stripD] using h
  | .vptr id k sz i o, v, h => by simpa only [stripD] using h
  | .sptr t xs, v, h => by simpa only [stripD] using h
theorem RL_strip : ∀ (ds : List D) (vs : List Value), RL g w ds vs → RL g w (stripL ds) vs
  | [], vs, h => by simpa only [stripL] using h
  | d :: ds, vs, h => by
    simp only [RL, stripL] at h ⊢
    obtain ⟨u, us, rfl, hu, hl⟩ := h
    exact ⟨u, us, rfl, R_strip d u hu, RL_strip ds us hl⟩
theorem RC_strip : ∀ (ds : List D) (vs : List Value), RC g w ds vs → RC g w (stripL ds) vs
  | [], vs, h => by simpa only [stripL] using h
  | d :: ds, vs, h => by
    simp only [RC, stripL] at h ⊢
    obtain ⟨u, us, rfl, ⟨ho, hu⟩, hl⟩ := h
    exact ⟨u, us, rfl, ⟨ho, R_strip d u hu⟩, RC_strip ds us hl⟩
end
end

def G.cut (g : G) (n : Nat) : G := { at_ := fun id => if id < n then g.at_ id else none, next := n }

theorem G.cut_some {g : G} {n id : Nat} {h : Gh} (hc : (g.cut n).at_ id = some h) : id < n ∧ g.at_ id = some h := by
  simp only [G.cut] at hc
  split at hc
  · exact ⟨by assumption, hc⟩
  · cases hc

theorem Imm.cut {g : G} {w : World} {n b o : Nat} {v : Value} (h : Imm g w b o v) : Imm (g.cut n) w b o v :=
  ⟨h.1, fun ⟨id, k, hid, hm⟩ => h.2 ⟨id, k, (G.cut_some hid).2, hm⟩⟩

section
variable {g : G} {w : World} {n : Nat}
mutual
theorem R_cut : ∀ (d : D) (v : Value), d.lt n → R g w d v → R (g.cut n) w d v
  | .slice o sz xs, v, hl, h => by
    simp only [R, D.lt] at h hl ⊢
    obtain ⟨A, cap, h1, h2, h3, h4, h5⟩ := h
    refine ⟨A, cap, h1, h2, h3, ?_, fun b off hA => RX_cut sz xs b off hl.2 (h5 b off hA)⟩
    cases o with
    | no => trivial
    | nil => exact h4
    | full => exact h4
    | tok t => exact ⟨hl.1, fun h hb => h4.2 h (G.cut_some hb).2⟩
  | .agg cs, v, hl, h => by
    simp only [R, D.lt] at h hl ⊢
    obtain ⟨vs, rfl, hc⟩ := h
    exact ⟨vs, rfl, RC_cut cs _ hl hc⟩
  | .tuple ds, v, hl, h => by
    simp only [R, D.lt] at h hl ⊢
    obtain ⟨vs, rfl, hc⟩ := h
    exact ⟨vs, rfl, RL_cut ds _ hl hc⟩
  | .iface t d, v, hl, h => by
    simp only [R, D.lt] at h hl ⊢
    obtain ⟨u, rfl, hu⟩ := h
    exact ⟨u, rfl, R_cut d u hl hu⟩
  | .undef, v, hl, h => by simp only [R]
  | .dead, v, hl, h => by simpa only [R] using h
  | .bool b, v, hl, h => by simpa only [R] using h
  | .int k n, v, hl, h => by simpa only [R] using h
  | .str s, v, hl, h => by simpa only [R] using h
  | .nilp, v, hl, h => by simpa only [R] using h
  | .ptr id off, v, hl, h => by
    simp only [R, D.lt] at h hl ⊢
    obtain ⟨b, hb, rfl⟩ := h
    exact ⟨b, by simp [G.cut, hl, hb], rfl⟩
  | .eptr cs off, v, hl, h => by
    simp only [R, D.lt] at h hl ⊢
    obtain ⟨b, o, rfl, hm⟩ := h
    exact ⟨b, o, rfl, RM_cut cs b o hl hm⟩
  | .func f caps, v, hl, h => by
    simp only [R, D.lt] at h hl ⊢
    obtain ⟨cv, rfl, hc⟩ := h
    exact ⟨cv, rfl, RL_cut caps _ hl hc⟩
  | .yld id, v, hl, h => by
    simp only [R, D.lt] at h hl ⊢
    obtain ⟨l, hb, rfl⟩ := h
    exact ⟨l, by simp [G.cut, hl, hb], rfl⟩
  | .nilf, v, hl, h => by simpa only [R] using h
  | .nili, v, hl, h => by simpa only [R] using h
  | .vec id k, v, hl, h => by
    simp only [R, D.lt] at h hl ⊢
    exact ⟨hl, h.2.1, fun b off len cap k' hb => h.2.2 b off len cap k' (G.cut_some hb).2⟩
  | .vptr id k sz i o, v, hl, h => by
    simp only [R, D.lt] at h hl ⊢
    exact ⟨hl, h.2.1, fun b off len cap k' hb => h.2.2 b off len cap k' (G.cut_some hb).2⟩
  | .sptr t xs, v, hl, h => by
    simp only [R, D.lt] at h hl ⊢
    exact ⟨hl.1, h.2.1, fun k hk => h.2.2.1 k (G.cut_some hk).2, fun b off hv => RX_cut 1 xs b off hl.2 (h.2.2.2 b off hv)⟩
theorem RL_cut : ∀ (ds : List D) (vs : List Value), ltL n ds → RL g w ds vs → RL (g.cut n) w ds vs
  | [], vs, hl, h => by simpa only [RL] using h
  | d :: ds, vs, hl, h => by
    simp only [RL, ltL] at h hl ⊢
    obtain ⟨u, us, rfl, hu, hc⟩ := h
    exact ⟨u, us, rfl, R_cut d u hl.1 hu, RL_cut ds us hl.2 hc⟩
theorem RC_cut : ∀ (ds : List D) (vs : List Value), ltL n ds → RC g w ds vs → RC (g.cut n) w ds vs
  | [], vs, hl, h => by simpa only [RC] using h
  | d :: ds, vs, hl, h => by
    simp only [RC, ltL] at h hl ⊢
    obtain ⟨u, us, rfl, ⟨ho, hu⟩, hc⟩ := h
    exact ⟨u, us, rfl, ⟨ho, R_cut d u hl.1 hu⟩, RC_cut ds us hl.2 hc⟩
theorem RM_cut : ∀ (ds : List D) (b o : Nat), ltL n ds → RM g w ds b o → RM (g.cut n) w ds b o
  | [], b, o, hl, h => by simp only [RM]
  | d :: ds, b, o, hl, h => by
    simp only [RM, ltL] at h hl ⊢
    obtain ⟨⟨u, hi, ho, hu⟩, hm⟩ := h
    exact ⟨⟨u, hi.cut, ho, R_cut d u hl.1 hu⟩, RM_cut ds b (o + 1) hl.2 hm⟩
theorem RX_cut (sz : Nat) : ∀ (xs : List (List D)) (b o : Nat), ltX n xs → RX g w sz xs b o → RX (g.cut n) w sz xs b o
  | [], b, o, hl, h => by simp only [RX]
  | x :: xs, b, o, hl, h => by
    simp only [RX, ltX] at h hl ⊢
    exact ⟨h.1, RM_cut x b o hl.1 h.2.1, RX_cut sz xs b (o + sz) hl.2 h.2.2⟩
end
end

section
variable {g : G} {w : World} (hg : GW g w)
include hg
mutual
theorem R_lt : ∀ (d : D) (v : Value), R g w d v → d.lt g.next
  | .slice o sz xs, v, h => by
    simp only [R, D.lt] at h ⊢
    obtain ⟨A, cap, h1, h2, h3, h4, h5⟩ := h
    refine ⟨?_, ?_⟩
    · cases o with
      | tok t => exact h4.1
      | _ => trivial
    · cases A with
      | none =>
        simp only [SliceAt] at h3
        have : xs = [] := List.eq_nil_of_length_eq_zero h3.1
        subst this
        simp only [ltX]
      | some ad =>
        by_cases h0 : xs = []
        · subst h0
          simp only [ltX]
        obtain ⟨b, off, sp⟩ := ad
        have h3 := h3.spot h2 (List.length_pos_iff.2 h0)
        simp only at h3
        subst h3
        exact RX_lt sz xs b off (h5 b off rfl)
  | .agg cs, v, h => by
    simp only [R, D.lt] at h ⊢
    obtain ⟨vs, rfl, hc⟩ := h
    exact RC_lt cs _ hc
  | .tuple ds, v, h => by
    simp only [R, D.lt] at h ⊢
    obtain ⟨vs, rfl, hc⟩ := h
    exact RL_lt ds _ hc
  | .iface t d, v, h => by
    simp only [R, D.lt] at h ⊢
    obtain ⟨u, rfl, hu⟩ := h
    exact R_lt d u hu
  | .ptr id off, v, h => by
    simp only [R, D.lt] at h ⊢
    obtain ⟨b, hb, rfl⟩ := h
    exact hg.lt id _ hb
  | .eptr cs off, v, h => by
    simp only [R, D.lt] at h ⊢
    obtain ⟨b, o, rfl, hm⟩ := h
    exact RM_lt cs b o hm
  | .func f caps, v, h => by
    simp only [R, D.lt] at h ⊢
    obtain ⟨cv, rfl, hc⟩ := h
    exact RL_lt caps _ hc
  | .yld id, v, h => by
    simp only [R, D.lt] at h ⊢
    obtain ⟨l, hb, rfl⟩ := h
    exact hg.lt id _ hb
  | .undef, v, h => by simp only [D.lt]
  | .dead, v, h => by simp only [D.lt]
  | .bool b, v, h => by simp only [D.lt]
  | .int k n, v, h => by simp only [D.lt]
  | .str s, v, h => by simp only [D.lt]
  | .nilp, v, h => by simp only [D.lt]
  | .nilf, v, h => by simp only [D.lt]
  | .nili, v, h => by simp only [D.lt]
  | .vec id k, v, h => by
    simp only [R, D.lt] at h ⊢
    exact h.1
  | .vptr id k sz i o, v, h => by
    simp only [R, D.lt] at h ⊢
    exact h.1
  | .sptr t xs, v, h => by
    simp only [R, D.lt] at h ⊢
    refine ⟨h.1, ?_⟩
    obtain ⟨p, hp, h1, h2⟩ := h.2.1
    cases p with
    | none =>
      have := h1 rfl
      subst this
      simp only [ltX]
    | some ad =>
      obtain ⟨b, off, sp⟩ := ad
      have := h2 _ rfl
      simp only at this
      subst this
      exact RX_lt 1 xs b off (h.2.2.2 b off hp)
theorem RL_lt : ∀ (ds : List D) (vs : List Value), RL g w ds vs → ltL g.next ds
  | [], vs, h => by simp only [ltL]
  | d :: ds, vs, h => by
    simp only [RL, ltL] at h ⊢
    obtain ⟨u, us, rfl, hu, hc⟩ := h
    exact ⟨R_lt d u hu, RL_lt ds us hc⟩
theorem RC_lt : ∀ (ds : List D) (vs : List Value), RC g w ds vs → ltL g.next ds
  | [], vs, h => by simp only [ltL]
  | d :: ds, vs, h => by
    simp only [RC, ltL] at h ⊢
    obtain ⟨u, us, rfl, ⟨ho, hu⟩, hc⟩ := h
    exact ⟨R_lt d u hu, RC_lt ds us hc⟩
theorem RM_lt : ∀ (ds : List D) (b o : Nat), RM g w ds b o → ltL g.next ds
  | [], b, o, h => by simp only [ltL]
  | d :: ds, b, o, h => by
    simp only [RM, ltL] at h ⊢
    obtain ⟨⟨u, hi, ho, hu⟩, hm⟩ := h
    exact ⟨R_lt d u hu, RM_lt ds b (o + 1) hm⟩
theorem RX_lt (sz : Nat) : ∀ (xs : List (List D)) (b o : Nat), RX g w sz xs b o → ltX g.next xs
  | [], b, o, h => by simp only [ltX]
  | x :: xs, b, o, h => by
    simp only [RX, ltX] at h ⊢
    exact ⟨RM_lt x b o h.2.1, RX_lt sz xs b (o + sz) h.2.2⟩
end
end

end Go.Hl
set_option linter.unusedSectionVars false
set_option linter.unusedVariables false
namespace Go.Hl
open Go

def Ob.lt (n : Nat) : Ob → Prop
  | .bx _ cs => ltL n cs
  | .tok _ _ => True
  | .tokF _ _ => True
  | .vec _ _ xs => ltX n xs
  | .loop _ env _ _ _ _ => ∀ t, (look env t).lt n

theorem ltL_append {n : Nat} : ∀ {xs ys : List D}, ltL n (xs ++ ys) ↔ ltL n xs ∧ ltL n ys
  | [], ys => by simp [ltL]
  | x :: xs, ys => by simp only [List.cons_append, ltL, ltL_append (xs := xs), and_assoc]

theorem ltX_flat {n : Nat} : ∀ {xs : List (List D)}, ltX n xs ↔ ltL n xs.flatten
  | [] => by simp [ltX, ltL]
  | x :: xs => by simp only [List.flatten_cons, ltX, ltL_append, ltX_flat (xs := xs)]

structure St.wf (σ : St) : Prop where
  obj : ∀ id o, σ.obj id = some o → id < σ.next ∧ o.lt σ.next
  glob : ∀ k cs, σ.glob k = some cs → ltL σ.next cs

theorem Rel.wf {P : Program} {g : G} {σ : St} {w : World} (h : Rel P g σ w) : σ.wf where
  obj := fun id o ho => by
    have hro := h.obj id o ho
    rw [h.next]
    cases o with
    | bx t cs =>
      obtain ⟨b, c, e, ha, _, hc, _⟩ := hro
      exact ⟨h.gw.lt id _ ha, RC_lt h.gw _ _ hc⟩
    | tok e n =>
      rcases hro with ⟨b, f, ha, _⟩ | ⟨ha, _⟩
      · exact ⟨h.gw.lt id _ ha, trivial⟩
      · exact ⟨h.gw.lt id _ ha, trivial⟩
    | tokF e n => exact ⟨h.gw.lt id _ hro, trivial⟩
    | vec k sz xs =>
      obtain ⟨b, off, cap, c, e, ha, _, _, _, _, hR⟩ := hro
      exact ⟨h.gw.lt id _ ha, ltX_flat.2 (RC_lt h.gw _ _ hR)⟩
    | loop nt env ps asg body st =>
      obtain ⟨l, r, ha, _, _, _, _, _, he, _⟩ := hro
      exact ⟨h.gw.lt id _ ha, fun t => R_lt h.gw _ _ (he t)⟩
  glob := fun k cs hc => by
    rw [h.next]
    exact RM_lt h.gw _ _ _ (h.glob k cs hc).rm

theorem E.cut {gS g : G} {wS w : World} (h : E gS wS g w) (hs : GW gS wS) {n : Nat} (hn : gS.next ≤ n) : E gS wS (g.cut n) w where
  out := h.out
  next := hn
  size := h.size
  old := fun id k hlt hc => h.old id k hlt (G.cut_some hc).2
  keep := fun id k ha hne => by
    have := hs.lt id k ha
    simp only [G.cut]
    rw [if_pos (by omega)]
    exact h.keep id k ha hne
  new := fun id k hle hc => h.new id k hle (G.cut_some hc).2
  still := h.still
  arr := h.arr

theorem GW.cut {g : G} {w : World} (h : GW g w) (n : Nat) : GW (g.cut n) w where
  lt := fun id k hc => (G.cut_some hc).1
  bl := fun id k b hc hb => h.bl id k b (G.cut_some hc).2 hb
  inj := fun i j k k' b hi hj hb hb' => h.inj i j k k' b (G.cut_some hi).2 (G.cut_some hj).2 hb hb'
  arr := fun t b f n e hc => h.arr t b f n e (G.cut_some hc).2

theorem Rel.cut {P : Program} {g : G} {σ σ' : St} {w : World} (h : Rel P g σ w) (hwf : σ'.wf) (hsame : ∀ id o, σ'.obj id = some o → σ.obj id = some o) (hglob : σ'.glob = σ.glob) :
    Rel P (g.cut σ'.next) σ' w where
  gw := h.gw.cut _
  next := rfl
  obj := fun id o ho => by
    obtain ⟨hlt, hol⟩ := hwf.obj id o ho
    have hro := h.obj id o (hsame id o ho)
    have hcut : ∀ k, g.at_ id = some k → (g.cut σ'.next).at_ id = some k := fun k hk => by simp [G.cut, hlt, hk]
    cases o with
    | bx t cs =>
      obtain ⟨b, c, e, ha, hh, hc, ht⟩ := hro
      exact ⟨b, c, e, hcut _ ha, hh, RC_cut _ _ hol hc, ht⟩
    | tok e n =>
      rcases hro with ⟨b, f, ha, hn⟩ | ⟨ha, hn⟩
      · exact .inl ⟨b, f, hcut _ ha, hn⟩
      · exact .inr ⟨hcut _ ha, hn⟩
    | tokF e n => exact hcut _ hro
    | vec k sz xs =>
      obtain ⟨b, off, cap, c, e, ha, hh, h1, h2, h3, hR⟩ := hro
      exact ⟨b, off, cap, c, e, hcut _ ha, hh, h1, h2, h3, RC_cut _ _ (ltX_flat.1 hol) hR⟩
    | loop nt env ps asg body st =>
      obtain ⟨l, r, ha, hh, h1, h2, h3, h4, he, h6, h7⟩ := hro
      exact ⟨l, r, hcut _ ha, hh, h1, h2, h3, h4, fun t => R_cut _ _ (hol t) (he t), h6, h7⟩
  glob := fun k cs hc => by
    obtain ⟨⟨c, e, z, hh, hcc⟩, hf⟩ := h.glob k cs (by rw [← hglob]; exact hc)
    exact ⟨⟨c, e, z, hh, RC_cut _ _ (hwf.glob k cs hc) hcc⟩, fun id h' hid => hf id h' (G.cut_some hid).2⟩

mutual
def frzD (F : Nat → Option (List D)) (st : Bool) : D → D
  | .ptr id off => match F id with
    | some cs => .eptr cs off
    | none => .ptr id off
  | .slice o sz xs => .slice (if st then .no else o) sz xs
  | .func f caps => .func f (frzL F st caps)
  | .agg cs => .agg (frzL F st cs)
  | .tuple ds => .tuple (frzL F st ds)
  | .iface t d => .iface t (frzD F st d)
  | .eptr cs off => .eptr cs off
  | .undef => .undef
  | .dead => .dead
  | .bool b => .bool b
  | .int k n => .int k n
  | .str s => .str s
  | .nilp => .nilp
  | .yld id => .yld id
  | .nilf => .nilf
  | .nili => .nili
  | .vec id k => .vec id k
  | .vptr id k sz i o => .vptr id k sz i o
  | .sptr t xs => .sptr t xs
def frzL (F : Nat → Option (List D)) (st : Bool) : List D → List D
  | [] => []
  | d :: ds => frzD F st d :: frzL F st ds
end

mutual
theorem frzD_id : ∀ d, frzD (fun _ => none) false d = d
  | .ptr id off => rfl
  | .slice o sz xs => rfl
  | .func f caps => by simp only [frzD, frzL_id]
  | .agg cs => by simp only [frzD, frzL_id]
  | .tuple ds => by simp only [frzD, frzL_id]
  | .iface t d => by simp only [frzD, frzD_id]
  | .eptr cs off => rfl
  | .undef => rfl
  | .dead => rfl
  | .bool b => rfl
  | .int k n => rfl
  | .str s => rfl
  | .nilp => rfl
  | .yld id => rfl
  | .nilf => rfl
  | .nili => rfl
  | .vec id k => rfl
  | .vptr id k sz i o => rfl
  | .sptr t xs => rfl
theorem frzL_id : ∀ ds, frzL (fun _ => none) false ds = ds
  | [] => rfl
  | d :: ds => by simp only [frzL, frzD_id, frzL_id]
end

section
variable {P : Program} {g : G} {σ : St} {w : World} {n : Nat} {F : Nat → Option (List D)} {st : Bool} (hrel : Rel P g σ w) (hF : ∀ id cs, F id = some cs → n ≤ id ∧ σ.obj id = some (.box cs))
include hrel hF
mutual
theorem R_frz : ∀ (d : D) (v : Value), (frzD F st d).lt n → R g w d v → R (g.cut n) w (frzD F st d) v
  | .ptr id off, v, hl, h => by
    simp only [frzD] at hl ⊢
    cases e : F id with
    | none => simp only [e] at hl ⊢; exact R_cut _ _ hl h
    | some cs =>
      simp only [e] at hl ⊢
      obtain ⟨hle, hob⟩ := hF id cs e
      obtain ⟨b, c, e', ha, hb, hc, _⟩ := hrel.obj id _ hob
      simp only [R] at h ⊢
      obtain ⟨b2, hb2, rfl⟩ := h
      rw [ha] at hb2
      injection hb2 with hb2
      injection hb2 with hb2
      subst hb2
      simp only [D.lt] at hl
      refine ⟨b, 0, by rw [Nat.zero_add], RM.of_get fun i d hd => ?_⟩
      obtain ⟨u, hu, ho, hr⟩ := (RC_cut cs _ hl hc).get hd
      refine ⟨u, ⟨⟨c, e', (0, 0), hb, by simpa using hu⟩, ?_⟩, ho, hr⟩
      rintro ⟨id', k, hid, hm⟩
      obtain ⟨q1, q2⟩ := G.cut_some hid
      have := hrel.gw.inj id' id k _ b q2 ha (Gh.mut_block hm) rfl
      omega
  | .slice o sz xs, v, hl, h => by
    simp only [frzD] at hl ⊢
    cases st
    · exact R_cut _ _ hl h
    · exact R_cut _ _ hl (R_no h)
  | .func f caps, v, hl, h => by
    simp only [frzD, D.lt, R] at hl h ⊢
    obtain ⟨cv, rfl, hc⟩ := h
    exact ⟨cv, rfl, RL_frz caps _ hl hc⟩
  | .agg cs, v, hl, h => by
    simp only [frzD, D.lt, R] at hl h ⊢
    obtain ⟨vs, rfl, hc⟩ := h
    exact ⟨vs, rfl, RC_frz cs _ hl hc⟩
  | .tuple ds, v, hl, h => by
    simp only [frzD, D.lt, R] at hl h ⊢
    obtain ⟨vs, rfl, hc⟩ := h
    exact ⟨vs, rfl, RL_frz ds _ hl hc⟩
  | .iface t d, v, hl, h => by
    simp only [frzD, D.lt, R] at hl h ⊢
    obtain ⟨u, rfl, hu⟩ := h
    exact ⟨u, rfl, R_frz d u hl hu⟩
  | .eptr cs off, v, hl, h => R_cut _ _ hl h
  | .undef, v, hl, h => R_cut _ _ hl h
  | .dead, v, hl, h => R_cut _ _ hl h
  | .bool b, v, hl, h => R_cut _ _ hl h
  | .int k n, v, hl, h => R_cut _ _ hl h
  | .str s, v, hl, h => R_cut _ _ hl h
  | .nilp, v, hl, h => R_cut _ _ hl h
  | .yld id, v, hl, h => R_cut _ _ hl h
  | .nilf, v, hl, h => R_cut _ _ hl h
  | .nili, v, hl, h => R_cut _ _ hl h
  | .vec id k, v, hl, h => R_cut _ _ hl h
  | .vptr id k sz i o, v, hl, h => R_cut _ _ hl h
  | .sptr t xs, v, hl, h => R_cut _ _ hl h
theorem RL_frz : ∀ (ds : List D) (vs : List Value), ltL n (frzL F st ds) → RL g w ds vs → RL (g.cut n) w (frzL F st ds) vs
  | [], vs, hl, h => by simpa only [RL, frzL] using h
  | d :: ds, vs, hl, h => by
    simp only [RL, frzL, ltL] at h hl ⊢
    obtain ⟨u, us, rfl, hu, hc⟩ := h
    exact ⟨u, us, rfl, R_frz d u hl.1 hu, RL_frz ds us hl.2 hc⟩
theorem RC_frz : ∀ (ds : List D) (vs : List Value), ltL n (frzL F st ds) → RC g w ds vs → RC (g.cut n) w (frzL F st ds) vs
  | [], vs, hl, h => by simpa only [RC, frzL] using h
  | d :: ds, vs, hl, h => by
    simp only [RC, frzL, ltL] at h hl ⊢
    obtain ⟨u, us, rfl, ⟨ho, hu⟩, hc⟩ := h
    exact ⟨u, us, rfl, ⟨ho, R_frz d u hl.1 hu⟩, RC_frz ds us hl.2 hc⟩
end
end

structure Drop (n0 : Nat) (env' : Env) (σ' : St) (env : Env) (σ : St) : Prop where
  n0 : n0 ≤ σ'.next
  next : σ'.next ≤ σ.next
  wf : σ'.wf
  same : ∀ id o, σ'.obj id = some o → σ.obj id = some o
  glob : σ'.glob = σ.glob
  env : ∀ p ∈ env', (p.2 = look env p.1 ∨ p.2 = stripD (look env p.1)) ∧ p.2.lt σ'.next

theorem look_mem : ∀ {env : Env} {t : Nat}, look env t = .undef ∨ ∃ p ∈ env, p.1 = t ∧ p.2 = look env t
  | [], t => .inl rfl
  | (k, d) :: r, t => by
    simp only [look]
    split
    · rename_i e; exact .inr ⟨(k, d), by simp, e, rfl⟩
    · rcases look_mem (env := r) (t := t) with h | ⟨p, hp, h1, h2⟩
      · exact .inl h
      · exact .inr ⟨p, by simp [hp], h1, h2⟩

theorem ER.drop {n0 : Nat} {g : G} {w : World} {env env' : Env} {σ σ' : St} {tmps : Array Value} (hd : Drop n0 env' σ' env σ) (h : ER g w env tmps) : ER (g.cut σ'.next) w env' tmps := fun t => by
  rcases look_mem (env := env') (t := t) with e | ⟨p, hp, h1, h2⟩
  · rw [e]; simp only [R]
  · obtain ⟨h3, h4⟩ := hd.env p hp
    rw [← h2]
    refine R_cut _ _ h4 ?_
    rw [h1] at h3
    rcases h3 with e | e <;> rw [e]
    · exact h t
    · exact R_strip _ _ (h t)

section
variable {M : Md} {base : HPost} {k : List It} {env : Env} {σ : St}

theorem Rl.drop {g : G} {w : World} {env' : Env} {σ' : St} {a : Act} (hr : Rl M g w σ env a) (hd : Drop M.gS.next env' σ' env σ) (hrnd : ∀ id l, M.r = some (id, l) → id < σ'.next) : Rl M (g.cut σ'.next) w σ' env' a where
  gs := hr.gs
  e := hr.e.cut hr.gs hd.n0
  rel := hr.rel.cut hd.wf hd.same hd.glob
  er := hr.er.drop hd
  nt := hr.nt
  defs := by
    obtain ⟨bs, h1, h2, h3⟩ := hr.defs
    exact ⟨bs, h1, h2, fun b hb => ⟨(h3 b hb).1, (h3 b hb).2.1, fun id h hc => (h3 b hb).2.2 id h (G.cut_some hc).2⟩⟩
  rnd := fun id l h => by simp [G.cut, hrnd id l h, hr.rnd id l h]

theorem exists_min (p : Nat → Prop) (h : ∃ n, p n) : ∃ n, p n ∧ ∀ m, p m → n ≤ m := by
  obtain ⟨n, hn⟩ := h
  induction n using Nat.strongRecOn with
  | _ n ih =>
    by_cases hm : ∃ m, m < n ∧ p m
    · obtain ⟨m, hlt, hp⟩ := hm
      exact ih m hlt hp
    · refine ⟨n, hn, fun m hp => ?_⟩
      rcases Nat.lt_or_ge m n with h | h
      · exact absurd ⟨m, h, hp⟩ hm
      · exact h

theorem hx_loop {S : Type} {c : HC} (En : S → Env) (T : S → St) (Inv : S → Prop) (μ : S → Nat) (s0 : S) (h0 : Inv s0) (hr : ∀ id l, M.r = some (id, l) → ∀ s, Inv s → id < (T s).next)
    (hd0 : Drop M.gS.next (En s0) (T s0) env σ)
    (round : ∀ s, Inv s → HX M base (.code c :: .stop (fun env' σ' => σ'.wf → (∀ t, (look env' t).lt σ'.next) → M.gS.next ≤ σ'.next → ∃ s', Inv s' ∧ μ s' < μ s ∧ Drop M.gS.next (En s') (T s') env' σ') :: k) (En s) (T s)) :
    HX M base (.code (.loop c) :: k) env σ := by
  intro cc hc g w a hrl
  cases cc <;> simp only [cmpC, Bool.false_eq_true] at hc
  rename_i body
  let p : Act → World → Nat → Prop := fun a w n => ∃ s g, Inv s ∧ Rl M g w (T s) (En s) a ∧ μ s = n
  have hmin : ∀ a w, (∃ n, p a w n) → ∃ n, p a w n ∧ ∀ m, p a w m → n ≤ m := fun a w h => exists_min _ h
  have hI0 : ∃ n, p a w n := ⟨μ s0, s0, _, h0, hrl.drop hd0 (fun id l h => hr id l h s0 h0), rfl⟩
  refine wpIn_loop (fun a w => ∃ n, p a w n) (fun a w => Classical.epsilon fun n => p a w n ∧ ∀ m, p a w m → n ≤ m) hI0 ?_
  intro a w hI
  have hsp := Classical.epsilon_spec (hmin a w hI)
  obtain ⟨⟨s, g, hs, hrl, hμ⟩, hle⟩ := hsp
  have := round s hs body hc g w a hrl
  refine wpIn_mono this ?_
  rintro e a' w' ⟨g', env', σ', hr', hq⟩
  cases e with
  | normal =>
    obtain ⟨s', hs', hlt, hd⟩ := hq hr'.rel.wf (fun t => by rw [hr'.rel.next]; exact R_lt hr'.rel.gw _ _ (hr'.er t)) (by rw [hr'.rel.next]; exact hr'.e.next)
    have hp' : p a' w' (μ s') := ⟨s', _, hs', hr'.drop hd (fun id l h => hr id l h s' hs'), rfl⟩
    refine ⟨⟨_, hp'⟩, ?_⟩
    have hsp' := Classical.epsilon_spec (hmin a' w' ⟨_, hp'⟩)
    have := hsp'.2 _ hp'
    omega
  | _ => exact ⟨g', env', σ', hr', hq⟩

end
end Go.Hl
set_option linter.unusedSectionVars false
set_option linter.unusedVariables false
namespace Go.Hl
open Go

inductive HR where
  | tmp (t : Nat)
  | cell (t : Nat) (sz : Option Nat)

structure HF where
  nt : Nat
  res : List HR
  body : HC

def cmpRes (P : Program) : List ResultVar → List HR → Bool
  | [], [] => true
  | .tmp t :: rs, .tmp t' :: hs => t == t' && cmpRes P rs hs
  | .cell t ty :: rs, .cell t' s :: hs => t == t' && cmpShape P ty s && cmpRes P rs hs
  | _, _ => false

def cmpF (P : Program) (fn : Func) (h : HF) : Bool :=
  (match fn.body with | some c => cmpC P h.nt c h.body | none => false) && decide (max fn.params.size fn.ntmps = h.nt) && cmpRes P fn.results.toList h.res && !(fn.name == "runtime.NumGoroutine")

def resD (σ : St) (env : Env) : List HR → Option (List D × Prop)
  | [] => some ([], True)
  | .tmp t :: hs => match resD σ env hs with
    | some (ds, p) => some (look env t :: ds, p)
    | none => none
  | .cell t s :: hs => match hval σ (evX σ env) (.load s (.tmp t)), resD σ env hs with
    | some (d, p), some (ds, q) => some (d :: ds, p ∧ q)
    | _, _ => none

def tupD : List D → D
  | [d] => d
  | ds => .tuple ds

def argEnv : Nat → List D → Env
  | _, [] => []
  | i, d :: ds => (i, d) :: argEnv (i + 1) ds

section
variable {P : Program} {g : G} {σ : St} {w : World}

def resOne (tmps : Array Value) : ResultVar → Sem Value
  | .tmp t => pure (tmps.getD t Go.undef)
  | .cell a t => do loadVar t (← asAddr (tmps.getD a Go.undef))

theorem run_results {fn : Func} {h : List HR} {env : Env} {tmps : Array Value} {ds : List D} {p : Prop} (hrel : Rel P g σ w) (he : ER g w env tmps) (hc : cmpRes P fn.results.toList h = true)
    (hr : resD σ env h = some (ds, p)) (hp : p) : ∃ v, (results fn tmps).run P w = .ok v w ∧ R g w (tupD ds) v := by
  have key : ∀ {rs : List ResultVar} {h : List HR} {ds : List D} {p : Prop}, cmpRes P rs h = true → resD σ env h = some (ds, p) → p →
      ∃ vs : List Value, (rs.mapM (resOne tmps)).run P w = .ok vs w ∧ RL g w ds vs := by
    intro rs
    induction rs with
    | nil =>
      intro h ds p hc hr hp
      cases h with
      | nil =>
        simp only [resD, Option.some.injEq, Prod.mk.injEq] at hr
        obtain ⟨rfl, rfl⟩ := hr
        exact ⟨[], by simp, by simp only [RL]⟩
      | cons x xs => simp [cmpRes] at hc
    | cons r rs ih =>
      intro h ds p hc hr hp
      cases h with
      | nil => cases r <;> simp [cmpRes] at hc
      | cons x xs =>
        cases r with
        | tmp t =>
          cases x with
          | cell t' s => simp [cmpRes] at hc
          | tmp t' =>
            simp only [cmpRes, Bool.and_eq_true, beq_iff_eq] at hc
            obtain ⟨rfl, hc⟩ := hc
            simp only [resD] at hr
            split at hr; rotate_left; · cases hr
            rename_i ds' p' hr'
            simp only [Option.some.injEq, Prod.mk.injEq] at hr
            obtain ⟨rfl, rfl⟩ := hr
            obtain ⟨vs, h1, h2⟩ := ih hc hr' hp
            refine ⟨tmps.getD t Go.undef :: vs, ?_, ?_⟩
            · simp only [List.mapM_cons, Sem.run_bind, resOne, Sem.run_pure, Result.andThen_ok]
              rw [h1]
              rfl
            · simp only [RL]
              exact ⟨_, _, rfl, he t, h2⟩
        | cell t ty =>
          cases x with
          | tmp t' => simp [cmpRes] at hc
          | cell t' s =>
            simp only [cmpRes, Bool.and_eq_true, beq_iff_eq] at hc
            obtain ⟨⟨rfl, hsh⟩, hc⟩ := hc
            simp only [resD] at hr
            split at hr; rotate_left; · cases hr
            rename_i d1 p1 ds' p' hl hr'
            simp only [Option.some.injEq, Prod.mk.injEq] at hr
            obtain ⟨rfl, rfl⟩ := hr
            obtain ⟨vs, h1, h2⟩ := ih hc hr' hp.2
            obtain ⟨v, hv1, hv2⟩ := run_loadAt (a := ⟨tmps, []⟩) (y := .tmp t) (x := .tmp t) hrel he hsh (by simp [cmpX]) hl hp.1
            have hv1' : (do loadVar ty (← asAddr (tmps.getD t Go.undef)) : Sem Value).run P w = .ok v w := by
              have e : (⟨tmps, []⟩ : Act).eval (.tmp t) = tmps.getD t Go.undef := rfl
              rw [e] at hv1
              simp only [Instr.loadAt, Sem.run_bind] at hv1 ⊢
              cases hx : tmps.getD t Go.undef <;> rw [hx] at hv1 <;> simp [Instr.sureAddr] at hv1
              rename_i q
              cases q with
              | none => simp at hv1
              | some q => simpa [asAddr] using hv1
            refine ⟨v :: vs, ?_, ?_⟩
            · simp only [List.mapM_cons]
              rw [Sem.run_bind, show resOne tmps (.cell t ty) = (do loadVar ty (← asAddr (tmps.getD t Go.undef)) : Sem Value) from rfl, hv1']
              simp only [Result.andThen_ok, Sem.run_bind]
              rw [h1]
              rfl
            · simp only [RL]
              exact ⟨_, _, rfl, hv2, h2⟩
  obtain ⟨vs, h1, h2⟩ := key hc hr hp
  have hlen := h2.length
  have hm : (fn.results.mapM (resOne tmps)).run P w = .ok vs.toArray w := by
    rw [Array.mapM_eq_mapM_toList, Sem.run_map, h1]
    rfl
  have hres : results fn tmps = (do let vs ← fn.results.mapM (resOne tmps); pure (if h : vs.size = 1 then vs[0] else .tuple vs)) := rfl
  rw [hres, Sem.run_bind, hm]
  simp only [Result.andThen_ok, Sem.run_pure]
  refine ⟨_, rfl, ?_⟩
  cases ds with
  | nil =>
    have : vs = [] := List.eq_nil_of_length_eq_zero (by simpa using hlen)
    subst this
    simp only [tupD, R]
    exact ⟨#[], rfl, by simp only [RL]⟩
  | cons d ds =>
    cases ds with
    | nil =>
      simp only [RL] at h2
      obtain ⟨u, us, rfl, hu, rfl⟩ := h2
      simpa [tupD] using hu
    | cons d2 ds2 =>
      have hne : ¬ vs.toArray.size = 1 := by simp at hlen ⊢; omega
      simp only [tupD, R]
      rw [dif_neg hne]
      exact ⟨_, rfl, h2⟩

theorem look_argEnv : ∀ (ds : List D) (i t : Nat), look (argEnv i ds) t = if i ≤ t then ds.getD (t - i) .undef else .undef
  | [], i, t => by simp [argEnv, look]
  | d :: ds, i, t => by
    simp only [argEnv, look]
    rw [look_argEnv ds (i + 1) t]
    by_cases h : i = t
    · subst h; simp
    · rw [if_neg h]
      by_cases h2 : i ≤ t
      · rw [if_pos h2, if_pos (by omega), show t - i = t - (i + 1) + 1 by omega]
        simp
      · rw [if_neg h2, if_neg (by omega)]

theorem argEnv_ER {args : List D} {vs : List Value} {tmps : Array Value} (h : RL g w args vs) (ht : ∀ (i : Nat) v, vs[i]? = some v → tmps.getD i Go.undef = v) : ER g w (argEnv 0 args) tmps := fun t => by
  rw [look_argEnv, if_pos (Nat.zero_le _), Nat.sub_zero]
  by_cases hl : t < args.length
  · obtain ⟨u, hu, hr⟩ := h.get (List.getElem?_eq_getElem hl)
    rw [List.getD, List.getElem?_eq_getElem hl, ht t u hu]
    exact hr
  · rw [List.getD, List.getElem?_eq_none (by omega)]
    simp only [Option.getD_none, R]

theorem take_ev {b : Nat} {o o' : Obj} (hgw : GW g w) (hb : w.heap[b]? = some o) (ho : ∀ c e z, o ≠ .cells c e z) :
    Ev g w g { w with heap := w.heap.setIfInBounds b o' } := by
  have hne : ∀ k, k ≠ b → ({ w with heap := w.heap.setIfInBounds b o' } : World).heap[k]? = w.heap[k]? := fun k hk => by
    simp only
    rw [Array.getElem?_setIfInBounds_ne (fun h => hk h.symm)]
  refine ⟨fun {b' o'' v} hi => ?_, fun _ _ h _ => h, Nat.le_refl _, fun _ h _ hh => ⟨h, 0, hh, .refl _⟩, fun {sz len A cap ow} hown => ?_⟩
  · obtain ⟨⟨c, e, z, h1, h2⟩, h3⟩ := hi
    refine ⟨⟨c, e, z, ?_, h2⟩, h3⟩
    rw [hne b' (fun eq => by subst eq; rw [hb] at h1; injection h1 with h1; exact ho _ _ _ h1)]
    exact h1
  · cases ow with
    | no => trivial
    | nil => exact hown
    | full => exact hown
    | tok t =>
      refine ⟨hown.1, fun k hat => ?_⟩
      have hk := hown.2 k hat
      cases k with
      | arr b' f n e =>
        refine ⟨hk.1, fun hn => ?_⟩
        obtain ⟨off, c, z, h1, h0, h2, h3, h4⟩ := hk.2 hn
        exact ⟨off, c, z, h1, h0, h2, by rw [hne b' (fun eq => by subst eq; rw [hb] at h3; injection h3 with h3; exact ho _ _ _ h3)]; exact h3, h4⟩
      | full n e z => exact hk
      | _ => trivial

theorem GL.ev {g : G} {w : World} {b : Nat} {o o' : Obj} (h : Ev g w g { w with heap := w.heap.setIfInBounds b o' }) (hb : w.heap[b]? = some o) (ho : ∀ c e z, o ≠ .cells c e z) {cs : List D} {k : Nat} (hl : GL g w cs k) :
    GL g { w with heap := w.heap.setIfInBounds b o' } cs k := by
  obtain ⟨⟨c, e, z, hh, hc⟩, hf⟩ := hl
  refine ⟨⟨c, e, z, ?_, RC.ev h _ _ hc⟩, hf⟩
  simp only
  rw [Array.getElem?_setIfInBounds_ne (fun q => by subst q; rw [hb] at hh; injection hh with hh; exact ho _ _ _ hh)]
  exact hh

theorem take_rel {b : Nat} {o o' : Obj} (hrel : Rel P g σ w) (hb : w.heap[b]? = some o) (ho : ∀ c e z, o ≠ .cells c e z) (hu : ∀ id h, g.at_ id = some h → h.block ≠ some b) :
    Rel P g σ { w with heap := w.heap.setIfInBounds b o' } := by
  have hne : ∀ id h k, g.at_ id = some h → h.block = some k → ({ w with heap := w.heap.setIfInBounds b o' } : World).heap[k]? = w.heap[k]? := fun id h k ha hk => by
    simp only
    rw [Array.getElem?_setIfInBounds_ne (fun e => hu id h ha (by rw [hk, e]))]
  have hev := take_ev (o' := o') hrel.gw hb ho
  refine ⟨⟨hrel.gw.lt, fun id h k ha hk => by simpa using hrel.gw.bl id h k ha hk, hrel.gw.inj, fun t b' f n e ha => ?_⟩, hrel.next, fun id ob hob => ?_, fun k cs hc => GL.ev hev (o' := o') hb ho (hrel.glob k cs hc)⟩
  · rw [hne t _ b' ha rfl]
    exact hrel.gw.arr t b' f n e ha
  · have hro := hrel.obj id ob hob
    cases ob with
    | bx t cs =>
      obtain ⟨b', c, e, ha, hh, hc, ht⟩ := hro
      exact ⟨b', c, e, ha, by rw [hne id _ b' ha rfl]; exact hh, RC.ev hev _ _ hc, ht⟩
    | tok e n => exact hro
    | tokF e n => exact hro
    | vec k sz xs =>
      obtain ⟨b', off, cap, c, e, ha, hh, h1, h2, h3, hR⟩ := hro
      exact ⟨b', off, cap, c, e, ha, by rw [hne id _ b' ha rfl]; exact hh, h1, h2, h3, RC.ev hev _ _ hR⟩
    | loop nt env ps asg body st =>
      obtain ⟨l, r, ha, hh, h1, h2, h3, h4, he, h6, h7⟩ := hro
      exact ⟨l, r, ha, by rw [hne id _ l ha rfl]; exact hh, h1, h2, h3, h4, fun t => R.ev hev _ _ (he t), h6, h7⟩

theorem take_E {gS : G} {wS : World} {b : Nat} {o' : Obj} (h : E gS wS g w) (hge : wS.heap.size ≤ b) (hs : GW gS wS) (hu : ∀ id h, g.at_ id = some h → h.block ≠ some b) :
    E gS wS g { w with heap := w.heap.setIfInBounds b o' } := by
  have hne : ∀ k, k ≠ b → ({ w with heap := w.heap.setIfInBounds b o' } : World).heap[k]? = w.heap[k]? := fun k hk => by
    simp only
    rw [Array.getElem?_setIfInBounds_ne (fun h => hk h.symm)]
  exact ⟨h.out.trans ⟨rfl, rfl, rfl⟩, h.next, by simpa using h.size, h.old, h.keep, h.new, fun b0 hlt hu0 => by rw [hne b0 (by omega)]; exact h.still b0 hlt hu0,
    fun t b0 f n e0 c e z ht hc => by
      have := hs.bl t _ b0 ht rfl
      rw [hne b0 (by omega)]
      exact h.arr t b0 f n e0 c e z ht hc⟩

theorem run_takeDeferred {b : Nat} (hb : w.heap[b]? = some (.deferred (some []))) : (Instr.takeDeferred b).run P w = .ok [] { w with heap := w.heap.setIfInBounds b (.deferred none) } := by
  simp [Instr.takeDeferred, getObj, setObj, Sem.run, hb]

theorem Ev.trans {g1 g2 : G} {w1 w2 : World} (a : Ev g w g1 w1) (b : Ev g1 w1 g2 w2) : Ev g w g2 w2 :=
  ⟨fun h => b.imm (a.imm h), fun id h k n => b.keep id h (a.keep id h k n) n, Nat.le_trans a.next b.next, fun id h2 hl k2 => by
    obtain ⟨h1, s1, k1, m1⟩ := b.old id h2 (Nat.lt_of_lt_of_le hl a.next) k2
    obtain ⟨h0, s0, k0, m0⟩ := a.old id h1 hl k1
    refine ⟨h0, min s0 s1, k0, Mv.trans (s := min s0 s1) (s1 := s1) (Nat.min_le_right ..) (m0.weak (Nat.min_le_left ..)) m1⟩, fun h => b.own (a.own h)⟩

theorem leaves {fn : Func} {gS : G} {wS : World} {tmps : Array Value} {Q : D → St → Prop} (hs : GW gS wS) : ∀ {ds : List Deferred} {w : World}, E gS wS g w → Rel P g σ w → DefsOk wS.heap.size g w ds →
    (∀ w', E gS wS g w' → Rel P g σ w' → Ev g w g w' → ∃ v, (results fn tmps).run P w' = .ok v w' ∧ HRet P gS wS Q (.returned v) w') → LeavesInM Fence.wide 0 P fn tmps (HRet P gS wS Q) ds .returning w
  | [], w, hE, hrel, hd, hres => by
    obtain ⟨v, h1, h2⟩ := hres w hE hrel ⟨fun h => h, fun _ _ h _ => h, Nat.le_refl _, fun _ h _ hh => ⟨h, 0, hh, .refl _⟩, fun h => h⟩
    exact ⟨v, h1, h2⟩
  | d0 :: ds, w, hE, hrel, hd, hres => by
    obtain ⟨bs, h1, h2, h3⟩ := hd
    cases bs with
    | nil => simp at h1
    | cons b bs =>
      simp only [List.map_cons, List.cons.injEq] at h1
      obtain ⟨rfl, rfl⟩ := h1
      obtain ⟨k1, k2, k3⟩ := h3 b (by simp)
      rw [List.nodup_cons] at h2
      have hne : ∀ k, k ≠ b → ({ w with heap := w.heap.setIfInBounds b (.deferred none) } : World).heap[k]? = w.heap[k]? := fun k hk => by
        simp only
        rw [Array.getElem?_setIfInBounds_ne (fun h => hk h.symm)]
      have hev := take_ev (o' := .deferred none) hrel.gw k2 (fun _ _ _ => by simp)
      refine ⟨by simp, .inl ⟨b, _, rfl, run_takeDeferred k2, leaves hs (take_E hE k1 hs k3) (take_rel hrel k2 (fun _ _ _ => by simp) k3) ⟨bs, rfl, h2.2, fun b' hb' => ?_⟩ (fun w' he' hr' hev' => hres w' he' hr' (hev.trans hev'))⟩⟩
      obtain ⟨j1, j2, j3⟩ := h3 b' (by simp [hb'])
      exact ⟨j1, by rw [hne b' (fun e => by subst e; exact h2.1 hb')]; exact j2, j3⟩

def FPost (n0 : Nat) (res : List HR) (Q : D → St → Prop) : HPost := fun e env σ =>
  (e = .normal ∨ e = .ret) ∧ (σ.wf → (∀ t, (look env t).lt σ.next) → n0 ≤ σ.next → ∃ ds p F st σ', resD σ env res = some (ds, p) ∧ p ∧ (∀ id cs, F id = some cs → σ'.next ≤ id ∧ σ.obj id = some (.box cs)) ∧
    (frzD F st (tupD ds)).lt σ'.next ∧ Drop n0 [] σ' env σ ∧ ∃ d, Wk (frzD F st (tupD ds)) d ∧ Q d σ')

theorem callFunc_body {f : Nat} {fn : Func} {args : Array Value} (hf : P.funcs[f]? = some fn) (hn : (!(fn.name == "runtime.NumGoroutine")) = true) (hb : fn.body.isSome = true) : (callFunc f args).run P w = .ok (.enter f args) w := by
  have h1 : (fn.name == "runtime.NumGoroutine") = false := by simpa using hn
  have h2 : fn.body.isNone = false := by cases hbb : fn.body <;> simp_all
  simp only [callFunc, Sem.run_bind, run_program, Result.andThen_ok, hf, h1, h2, Bool.false_eq_true, if_false, Sem.run_pure]

theorem hcalls_body {f : Nat} {fn : Func} {h : HF} {args : List D} {σ : St} {Q : D → St → Prop} (hf : P.funcs[f]? = some fn) (hc : cmpF P fn h = true) (hlen : args.length ≤ h.nt) (hnt : args.length + (fn.ntmps - args.length) = h.nt)
    (body : ∀ M : Md, M.P = P → M.r = none → M.nt = h.nt → M.gS.next = σ.next → σ.wf → ltL σ.next args → HX M (FPost M.gS.next h.res Q) [.code h.body] (argEnv 0 args) σ) : HCalls P f args σ Q := by
  intro g w vs hrel hl
  unfold cmpF at hc
  simp only [Bool.and_eq_true] at hc
  obtain ⟨⟨⟨h1, h2⟩, h3⟩, h4⟩ := hc
  split at h1; rotate_left; · cases h1
  rename_i c hb
  rw [callFunc_body hf h4 (by rw [hb]; rfl)]
  refine callsIn_of_wp_marks hf hb trivial ?_
  have hvl := hl.length
  have hwalk := body { P := P, nt := h.nt, r := none, gS := g, wS := w } rfl rfl rfl hrel.next.symm hrel.wf (by rw [hrel.next]; exact RL_lt hrel.gw _ _ hl) c h1 g w
    { tmps := vs.toArray ++ Array.replicate (fn.ntmps - vs.toArray.size) Go.undef, defers := [] }
    { gs := hrel.gw
      e := E.refl g w hrel.gw
      rel := hrel
      er := argEnv_ER hl fun i v hv => by
        have hi : i < vs.length := by
          rcases Nat.lt_or_ge i vs.length with h' | h'
          · exact h'
          · rw [List.getElem?_eq_none h'] at hv; cases hv
        rw [Array.getD_eq_getD_getElem?, Array.getElem?_append_left (by simpa using hi)]
        simp [hv]
      nt := by simp [hvl]; exact hnt
      defs := DefsOk.nil _ _ _
      rnd := fun _ _ h => by cases h }
  refine wpIn_mono hwalk ?_
  rintro e a' w' ⟨g', env', σ', hr', he, hfin⟩
  obtain ⟨ds, p, F, st, σ2, hres, hp, hF, hdl, hdrop, d2, hwk, hq⟩ := hfin hr'.rel.wf (fun t => by rw [hr'.rel.next]; exact R_lt hr'.rel.gw _ _ (hr'.er t)) (by rw [hr'.rel.next]; exact hr'.e.next)
  have hleave : LeavesInM Fence.wide 0 P fn a'.tmps (HRet P g w Q) a'.defers .returning w' := by
    refine leaves hr'.gs hr'.e hr'.rel hr'.defs fun w2 hE2 hrel2 hev => ?_
    obtain ⟨v, hv1, hv2⟩ := run_results hrel2 (fun t => R.ev hev _ _ (hr'.er t)) h3 hres hp
    exact ⟨v, hv1, _, g'.cut σ2.next, σ2, hE2.cut hr'.gs hdrop.n0, hrel2.cut hdrop.wf hdrop.same hdrop.glob, hwk _ _ _ (R_frz hrel2 hF _ _ hdl hv2), hq⟩
  rcases he with rfl | rfl <;> exact hleave

end
end Go.Hl
set_option linter.unusedSectionVars false
set_option linter.unusedVariables false
set_option linter.unusedSimpArgs false
namespace Go.Hl
open Go

section
variable {P : Program} {g : G} {σ : St} {w : World}

theorem obj_rel {id l : Nat} {o o' : Obj} (hrel : Rel P g σ w) (ha : g.at_ id = some (.loop l)) (hl : w.heap[l]? = some o) (ho : ∀ c e z, o ≠ .cells c e z) {σ' : St} (hn : σ'.next = σ.next) (hgl : σ'.glob = σ.glob)
    (hobj : ∀ j ob, j ≠ id → σ'.obj j = some ob → σ.obj j = some ob) (hid : ∀ ob, σ'.obj id = some ob → Ev g w g { w with heap := w.heap.setIfInBounds l o' } → RO P g { w with heap := w.heap.setIfInBounds l o' } id ob) :
    Rel P g σ' { w with heap := w.heap.setIfInBounds l o' } := by
  have hne : ∀ j h k, j ≠ id → g.at_ j = some h → h.block = some k → ({ w with heap := w.heap.setIfInBounds l o' } : World).heap[k]? = w.heap[k]? := fun j h k hj hh hk => by
    simp only
    rw [Array.getElem?_setIfInBounds_ne (fun e => hj (hrel.gw.inj j id h _ k hh ha hk (by rw [← e]; rfl)))]
  have hev := take_ev (o' := o') hrel.gw hl ho
  refine ⟨⟨hrel.gw.lt, fun id h k ha hk => by simpa using hrel.gw.bl id h k ha hk, hrel.gw.inj, fun t b' f n e hat => ?_⟩, by rw [hn, hrel.next], fun j ob hob => ?_, fun k cs hc => GL.ev hev (o' := o') hl ho (hrel.glob k cs (by rw [← hgl]; exact hc))⟩
  · rw [hne t _ b' (fun e => by subst e; rw [ha] at hat; cases hat) hat rfl]
    exact hrel.gw.arr t b' f n e hat
  · by_cases hj : j = id
    · subst hj
      exact hid ob hob hev
    · have hro := hrel.obj j ob (hobj j ob hj hob)
      cases ob with
      | bx t cs =>
        obtain ⟨b', c, e, hat, hh, hc, ht⟩ := hro
        exact ⟨b', c, e, hat, by rw [hne j _ b' hj hat rfl]; exact hh, RC.ev hev _ _ hc, ht⟩
      | tok e n => exact hro
      | tokF e n => exact hro
      | vec k sz xs =>
        obtain ⟨b', off, cap, c, e, hat, hh, h1, h2, h3, hR⟩ := hro
        exact ⟨b', off, cap, c, e, hat, by rw [hne j _ b' hj hat rfl]; exact hh, h1, h2, h3, RC.ev hev _ _ hR⟩
      | loop nt env ps asg body st =>
        obtain ⟨l', r, hat, hh, h1, h2, h3, h4, he, h6, h7⟩ := hro
        exact ⟨l', r, hat, by rw [hne j _ l' hj hat rfl]; exact hh, h1, h2, h3, h4, fun t => R.ev hev _ _ (he t), h6, h7⟩

theorem obj_E {id l : Nat} {o o' : Obj} (hg : GW g w) (ha : g.at_ id = some (.loop l)) (hl : w.heap[l]? = some o) (ho : ∀ c e z, o ≠ .cells c e z) : E g w g { w with heap := w.heap.setIfInBounds l o' } := by
  have hne : ∀ k, k ≠ l → ({ w with heap := w.heap.setIfInBounds l o' } : World).heap[k]? = w.heap[k]? := fun k hk => by
    simp only
    rw [Array.getElem?_setIfInBounds_ne (fun h => hk h.symm)]
  exact {
    out := ⟨rfl, rfl, rfl⟩
    next := Nat.le_refl _
    size := by simp
    old := fun _ h _ k => ⟨h, k, .refl _⟩
    keep := fun _ _ h _ => h
    new := fun id h hle ha => absurd (hg.lt id h ha) (by omega)
    still := fun b _ hu => hne b (fun e => hu id _ ha (by rw [e]; rfl))
    arr := fun t b f n e0 c e z ht hc => ⟨c, z, by
      rw [hne b (fun eb => by
        subst eb
        rw [hl] at hc
        injection hc with hc
        exact ho _ _ _ hc)]
      exact hc, rfl, fun _ _ => rfl⟩ }

end

section
variable {M : Md} {base : HPost} {k : List It} {env : Env} {σ : St}

theorem Rl.goes {g g' : G} {w w' : World} {σ' : St} {a : Act} (hr : Rl M g w σ env a) (hE : E g w g' w') (hR : Rel M.P g' σ' w') : Rl M g' w' σ' env a :=
  hr.put (dst := none) (v := Go.undef) (d := .undef) hE hR (by simp only [R]) rfl

def hasBody (P : Program) (f : Nat) : Bool :=
  match P.funcs[f]? with
  | some fn => fn.body.isSome && !(fn.name == "runtime.NumGoroutine")
  | none => false

theorem callFunc_has {P : Program} {f : Nat} {args : Array Value} {w : World} (h : hasBody P f = true) : (callFunc f args).run P w = .ok (.enter f args) w := by
  unfold hasBody at h
  split at h
  · rename_i fn hf
    simp only [Bool.and_eq_true] at h
    exact callFunc_body hf h.2 h.1
  · cases h

theorem enterLoop_outer (P : Program) (w : World) (fn : FuncId) (tmps : Array Value) (ps : Array Tmp) (as b : Code) :
    (Instr.enterLoop fn tmps ps as b none).run P w = .ok (w.heap.size + 1, [mkDef w.heap.size])
      ((w.alloc (.deferred (some []))).alloc (.loop { state := .ready, pending := none, fn := fn, tmps := tmps, params := ps, assign := as, body := b, defers := w.heap.size })) := by
  simp [Instr.enterLoop, mkDef]

theorem enterLoop_inner (P : Program) (w : World) (fn : FuncId) (tmps : Array Value) (ps : Array Tmp) (as b : Code) {l0 : Nat} {r0 : Loop} (h : w.heap[l0]? = some (.loop r0)) :
    (Instr.enterLoop fn tmps ps as b (some l0)).run P w = .ok (w.heap.size, [])
      (w.alloc (.loop { state := .ready, pending := none, fn := fn, tmps := tmps, params := ps, assign := as, body := b, defers := r0.defers })) := by
  simp [Instr.enterLoop, Instr.getLoop, getObj, Sem.run, h]

theorem mkDef_inj : ∀ {bs cs : List Nat}, bs.map mkDef = cs.map mkDef → bs = cs
  | [], [], _ => rfl
  | [], _ :: _, h => by simp at h
  | _ :: _, [], h => by simp at h
  | b :: bs, c :: cs, h => by
    simp only [List.map_cons, List.cons.injEq, mkDef, Deferred.mk.injEq, Target.collected.injEq] at h
    rw [h.1.1, mkDef_inj h.2]

def RangeGoes (M : Md) (base : HPost) (k : List It) (env : Env) (ps : List Nat) (asg body : HC) (id : Nat) (σ' : St) : Prop :=
  ∃ st, σ'.obj id = some (.loop M.nt env ps asg body st) ∧ match st with
    | .ready => HX M base k env (σ'.del id)
    | .done j => HX M base (.code j :: k) env (σ'.del id)
    | .busy => False

theorem hx_range {f : X} {ps : List Nat} {asg body : HC} {fn : Nat} {caps : List D} (hf : evX σ env f = .func fn caps) (hbody : hasBody M.P fn = true)
    (hin : ∀ id l, M.r = some (id, l) → ∃ nt e p a b st, σ.obj id = some (.loop nt e p a b st))
    (hcall : HCalls M.P fn (.yld σ.next :: caps) (σ.new (.loop M.nt env ps asg body .ready)) (fun _ σ' => RangeGoes M base k env ps asg body σ.next σ')) :
    HX M base (.code (.range f ps asg body) :: k) env σ := by
  intro c hc g w a hr
  obtain ⟨f', ps', asg', body', rfl, hcx, hps, hca, hcb⟩ : ∃ f' ps' asg' body', c = .rangeFunc f' ps' asg' body' ∧ cmpX f' f = true ∧ ps'.toList = ps ∧ cmpC M.P M.nt asg' asg = true ∧ cmpC M.P M.nt body' body = true := by
    cases c <;> first
      | (simp [cmpC] at hc; done)
      | skip
    rename_i f' ps' asg' body'
    simp only [cmpC, Bool.and_eq_true, decide_eq_true_eq] at hc
    exact ⟨_, _, _, _, rfl, hc.1.1.1, hc.1.1.2, hc.1.2, hc.2⟩
  have hR := evX_R hr.rel hr.er hcx
  rw [hf] at hR
  simp only [R] at hR
  obtain ⟨cv, hval, hcaps⟩ := hR
  refine wpIn_rangeFunc fun fn0 _ => ?_
  -- the record is laid
  obtain ⟨l, mark, w1, rec, hent, hlrec, hst, hpe, hpar, has, hbo, htm, hE1, hR1, hd1⟩ : ∃ l mark w1 rec, (Instr.enterLoop fn0 a.tmps ps' asg' body' M.F.round).run M.P w = .ok (l, mark) w1 ∧ w1.heap[l]? = some (.loop rec) ∧ rec.state = .ready ∧ rec.pending = none ∧
      rec.params = ps' ∧ rec.assign = asg' ∧ rec.body = body' ∧ rec.tmps = a.tmps ∧ E g w (g.new (.loop l)) w1 ∧ Rel M.P (g.new (.loop l)) (σ.new (.loop M.nt env ps asg body .ready)) w1 ∧ DefsOk M.wS.heap.size (g.new (.loop l)) w1 (mark ++ a.defers) := by
    have lay : ∀ (w0 : World) (rec : Loop), E g w g w0 → Rel M.P g σ w0 → rec.state = .ready → rec.pending = none → rec.params = ps' → rec.assign = asg' → rec.body = body' → rec.tmps = a.tmps →
        E g w (g.new (.loop w0.heap.size)) (w0.alloc (.loop rec)) ∧ Rel M.P (g.new (.loop w0.heap.size)) (σ.new (.loop M.nt env ps asg body .ready)) (w0.alloc (.loop rec)) := by
      intro w0 rec hE0 hR0 h1 h2 h3 h4 h5 h6
      obtain ⟨hE, hR⟩ := new_block (h := .loop w0.heap.size) (o := .loop M.nt env ps asg body .ready) hR0 (.loop rec) rfl (fun b f n e0 e => by cases e) (fun hE =>
        ⟨w0.heap.size, rec, G.new_same _ _, heap_alloc_new w0 _, by rw [h3]; exact hps, by rw [h4]; exact hca, by rw [h5]; exact hcb, by rw [h6]; exact hr.nt, by
          rw [h6]; exact (hr.er.mono hE0 hr.rel.gw).mono hE hR0.gw, fun _ => h2, h1⟩)
      exact ⟨E.trans hr.rel.gw hE0 hE, hR⟩
    have hround : M.F.round = M.r.map (·.2) := by
      unfold Md.F
      split <;> rename_i h <;> rw [h] <;> rfl
    cases hMr : M.r with
    | none =>
      rw [hround, hMr]
      have hs0 : w.heap.size ≤ (w.alloc (.deferred (some []))).heap.size := by rw [World.size_alloc]; omega
      have hold0 : ∀ b, b < w.heap.size → (w.alloc (.deferred (some []))).heap[b]? = w.heap[b]? := fun b hlt => heap_oldH w _ b hlt
      obtain ⟨hE, hR⟩ := lay (w.alloc (.deferred (some []))) { state := .ready, pending := none, fn := fn0, tmps := a.tmps, params := ps', assign := asg', body := body', defers := w.heap.size }
        (E.of_heap hr.rel.gw hs0 hold0) (hr.rel.of_heap hs0 hold0) rfl rfl rfl rfl rfl rfl
      rw [World.size_alloc] at hE hR
      refine ⟨_, _, _, { state := .ready, pending := none, fn := fn0, tmps := a.tmps, params := ps', assign := asg', body := body', defers := w.heap.size }, enterLoop_outer M.P w fn0 a.tmps ps' asg' body', ?_, rfl, rfl, rfl, rfl, rfl, rfl, hE, hR, ?_⟩
      · have := heap_alloc_new (w.alloc (.deferred (some []))) (.loop { state := .ready, pending := none, fn := fn0, tmps := a.tmps, params := ps', assign := asg', body := body', defers := w.heap.size })
        rwa [World.size_alloc] at this
      · obtain ⟨bs, h1, h2, h3⟩ := hr.defs.mono hE
        refine ⟨w.heap.size :: bs, by rw [h1]; rfl, List.nodup_cons.2 ⟨fun hm => ?_, h2⟩, fun b hb => ?_⟩
        · obtain ⟨bs', k1, k2, k3⟩ := hr.defs
          have hbb : bs = bs' := by
            have : bs.map mkDef = bs'.map mkDef := by rw [← h1, ← k1]
            exact mkDef_inj this
          subst hbb
          have := lt_of_heap (k3 _ hm).2.1
          omega
        · rcases List.mem_cons.1 hb with rfl | hb
          · refine ⟨hr.e.size, ?_, fun id h hid hbl => ?_⟩
            · rw [heap_oldH _ _ _ (by rw [World.size_alloc]; omega)]
              exact heap_alloc_new w _
            · by_cases e : id = g.next
              · subst e
                rw [G.new_same] at hid
                injection hid with hid
                subst hid
                simp [Gh.block] at hbl
              · rw [G.new_ne g _ e] at hid
                have := hr.rel.gw.bl id h _ hid hbl
                omega
          · exact h3 b hb
    | some p =>
      obtain ⟨id0, l0⟩ := p
      rw [hround, hMr]
      obtain ⟨nt0, e0, p0, a0, b0, st0, hob⟩ := hin id0 l0 hMr
      obtain ⟨l1, r0, hat, hh, _⟩ := hr.rel.obj id0 _ hob
      have := hr.rnd id0 l0 hMr
      rw [this] at hat
      injection hat with hat
      injection hat with hat
      subst hat
      obtain ⟨hE, hR⟩ := lay w { state := .ready, pending := none, fn := fn0, tmps := a.tmps, params := ps', assign := asg', body := body', defers := r0.defers }
        (E.refl g w hr.rel.gw) hr.rel rfl rfl rfl rfl rfl rfl
      exact ⟨_, _, _, { state := .ready, pending := none, fn := fn0, tmps := a.tmps, params := ps', assign := asg', body := body', defers := r0.defers }, enterLoop_inner M.P w fn0 a.tmps ps' asg' body' hh, heap_alloc_new w _, rfl, rfl, rfl, rfl, rfl, rfl, hE, hR, hr.defs.mono hE⟩
  have hyl : R (g.new (.loop l)) w1 (.yld σ.next) (.func (.yield l) #[] #[]) := by
    simp only [R]
    exact ⟨l, by rw [hr.rel.next, G.new_same], rfl⟩
  have hargs : RL (g.new (.loop l)) w1 (.yld σ.next :: caps) (.func (.yield l) #[] #[] :: cv.toList) := by
    simp only [RL]
    exact ⟨_, _, rfl, hyl, RL.mono hE1 hr.rel.gw _ _ hcaps⟩
  have hnext := hcall _ _ _ hR1 hargs
  have hargsA : (Value.func (.yield l) #[] #[] :: cv.toList).toArray = #[Value.func (.yield l) #[] #[]] ++ cv := by
    apply Array.ext'
    simp
  rw [hargsA, callFunc_has hbody] at hnext
  refine ⟨l, mark, w1, { target := .fn (.func fn) cv, args := #[.func (.yield l) #[] #[]] }, w1, fn, #[.func (.yield l) #[] #[]] ++ cv, w1, hent, ?_, fun f _ => M.F_fn f, ?_, (fun h => by rw [M.F_depth] at h; cases h), ?_⟩
  · simp only [resolve, rangeCall, hval, Deferred.ofValue]
    simp [Act.eval]
  · simp [invoke, callFunc_has hbody]
  · have hr1 : Rl M (g.new (.loop l)) w1 (σ.new (.loop M.nt env ps asg body .ready)) env { a with defers := mark ++ a.defers } :=
      ⟨hr.gs, E.trans hr.gs hr.e hE1, hR1, hr.er.mono hE1 hr.rel.gw, hr.nt, hd1, fun id l' h => hE1.keep id _ (hr.rnd id l' h) rfl⟩
    refine (callsIn_F M hnext).mono ?_
    intro e w3 he
    cases e with
    | panicked ch => exact he.elim
    | outgrown => exact he.elim
    | returned v =>
      obtain ⟨d, g3, σ3, hE3, hR3, _, st, hob, hgo⟩ := he
      have hr3 := hr1.goes hE3 hR3
      obtain ⟨l3, r3, hat, hh, h1, h2, h3, h4, h5, h6, h7⟩ := hR3.obj _ _ hob
      have hl3 : l3 = l := by
        have := hE3.keep g.next (.loop l) (G.new_same _ _) rfl
        rw [hr.rel.next, this] at hat
        injection hat with hat
        injection hat with hat
        exact hat.symm
      subst hl3
      have hnc : ∀ c e z, (Obj.loop r3) ≠ .cells c e z := fun _ _ _ h => by cases h
      have hend : r3.state ≠ .busy → (Instr.endLoop l3).run M.P w3 = .ok r3.pending { w3 with heap := w3.heap.setIfInBounds l3 (.loop { r3 with state := .exhausted }) } := fun hnb => by
        simp [Instr.endLoop, Instr.getLoop, getObj, setObj, Sem.run, hh, hnb]
      have hr4 : Rl M g3 { w3 with heap := w3.heap.setIfInBounds l3 (.loop { r3 with state := .exhausted }) } (σ3.del σ.next) env { a with defers := mark ++ a.defers } :=
        hr3.goes (obj_E hR3.gw hat hh hnc) (obj_rel hR3 hat hh hnc rfl rfl (fun j ob hj hob => by simpa [St.del, hj] using hob) (fun ob hob _ => by simp [St.del] at hob))
      cases st with
      | busy => exact hgo.elim
      | ready =>
        simp only [RSt] at h7
        refine ⟨_, _, hend (by rw [h7]; simp), ?_⟩
        have hp0 : r3.pending = none := h6 rfl
        split
        · exact ⟨g3, env, _, hr4, hgo⟩
        · rename_i c hc; rw [hp0] at hc; cases hc
      | done j =>
        simp only [RSt] at h7
        obtain ⟨h7, c, hpc, hcc⟩ := h7
        refine ⟨_, _, hend (by rw [h7]; simp), ?_⟩
        split
        · rename_i hc; rw [hpc] at hc; cases hc
        · rename_i c' hc
          rw [hpc] at hc
          injection hc with hc
          subst hc
          exact hgo _ hcc g3 _ _ hr4

def RPost (n0 nt : Nat) (id : Nat) (env0 : Env) (ps : List Nat) (asg body : HC) (K : D → St → Prop) : HPost := fun e env σ =>
  σ.obj id = some (.loop nt env0 ps asg body .busy) ∧
  match e with
  | .normal => (σ.put id (.loop nt env0 ps asg body .ready)).wf → n0 ≤ σ.next → ∃ σ', Drop n0 [] σ' env (σ.put id (.loop nt env0 ps asg body .ready)) ∧ K (.bool true) σ'
  | .ret => (σ.put id (.loop nt env0 ps asg body (.done .ret))).wf → n0 ≤ σ.next → ∃ σ', Drop n0 [] σ' env (σ.put id (.loop nt env0 ps asg body (.done .ret))) ∧ K (.bool false) σ'
  | .exit j => (σ.put id (.loop nt env0 ps asg body (.done (.exit j)))).wf → n0 ≤ σ.next → ∃ σ', Drop n0 [] σ' env (σ.put id (.loop nt env0 ps asg body (.done (.exit j)))) ∧ K (.bool false) σ'
  | _ => False

def putsE (env : Env) : List Nat → List D → Env
  | p :: ps, d :: ds => putsE (putE env p d) ps ds
  | _, _ => env

theorem ER.putE {g : G} {w : World} {env : Env} {tmps : Array Value} {t : Nat} {d : D} {v : Value} (h : ER g w env tmps) (ht : t < tmps.size) (hd : R g w d v) : ER g w (putE env t d) (tmps.setIfInBounds t v) := fun s => by
  rw [look_putE]
  split
  · rename_i e
    subst e
    rw [Array.getD_eq_getD_getElem?, Array.getElem?_setIfInBounds_self_of_lt ht]
    exact hd
  · rename_i e
    rw [Array.getD_eq_getD_getElem?, Array.getElem?_setIfInBounds_ne (fun h => e h.symm), ← Array.getD_eq_getD_getElem?]
    exact h s

theorem ER.puts {g : G} {w : World} : ∀ {ps : List Nat} {ds : List D} {vs : List Value} {env : Env} {tmps : Array Value}, ER g w env tmps → (∀ p ∈ ps, p < tmps.size) → RL g w ds vs →
    ER g w (putsE env ps ds) ((ps.zip vs).foldl (fun t (p : Nat × Value) => t.setIfInBounds p.1 p.2) tmps) ∧ ((ps.zip vs).foldl (fun t (p : Nat × Value) => t.setIfInBounds p.1 p.2) tmps).size = tmps.size
  | [], ds, vs, env, tmps, h, _, _ => ⟨by cases ds <;> simpa [putsE] using h, rfl⟩
  | p :: ps, [], vs, env, tmps, h, _, hr => by
    simp only [RL] at hr
    subst hr
    exact ⟨by simpa [putsE] using h, rfl⟩
  | p :: ps, d :: ds, vs, env, tmps, h, hp, hr => by
    simp only [RL] at hr
    obtain ⟨u, us, rfl, hu, hl⟩ := hr
    simp only [putsE, List.zip_cons_cons, List.foldl_cons]
    have := ER.puts (ps := ps) (h.putE (hp p (by simp)) hu) (fun q hq => by rw [Array.size_setIfInBounds]; exact hp q (by simp [hq])) hl
    exact ⟨this.1, by rw [this.2, Array.size_setIfInBounds]⟩

theorem hcallD_yield {P : Program} {nt id : Nat} {env0 : Env} {ps : List Nat} {asg body : HC} {args : List D} {σ : St} {K : D → St → Prop} (hob : σ.obj id = some (.loop nt env0 ps asg body .ready)) (hl : args.length = ps.length)
    (hps : ∀ p ∈ ps, p < nt)
    (hround : ∀ M : Md, M.P = P → M.nt = nt → (∃ l, M.r = some (id, l)) → M.gS.next = σ.next → σ.wf → ltL σ.next args →
      HX M (fun _ _ _ => False) [.code asg, .stop fun env1 σ1 => σ1.obj id = some (.loop nt env0 ps asg body .ready) ∧ HX M (RPost σ.next nt id env0 ps asg body K) [.code body] env1 (σ1.put id (.loop nt env0 ps asg body .busy))] (putsE env0 ps args) σ) :
    HCallD P (.yld id) args σ K := by
  intro g w v vs hrel hd hargs
  simp only [R] at hd
  obtain ⟨l, hat, rfl⟩ := hd
  refine ⟨.yield l, #[], rfl, ?_⟩
  obtain ⟨l', r, hat', hh, h1, h2, h3, h4, h5, h6, h7⟩ := hrel.obj id _ hob
  rw [hat] at hat'
  injection hat' with hat'
  injection hat' with hat'
  subst hat'
  have hvl := hargs.length
  have hsz : vs.toArray.size = r.params.size := by
    have : r.params.toList.length = ps.length := by rw [h1]
    simp at this ⊢
    omega
  have hinv : (invoke (.fn (.yield l) #[]) vs.toArray).run P w = .ok (.round l r.fn ((r.params.zip vs.toArray).foldl (fun tmps (t, a) => tmps.setIfInBounds t a) r.tmps) r.assign r.body) w := by
    have hne : ¬ (vs.toArray.size ≠ r.params.size) := fun h => h hsz
    simp only [invoke, Instr.yield, Instr.getLoop, getObj, Sem.run_bind, Sem.run, hh, Result.andThen_ok, if_neg hne, Sem.run_pure]
  rw [hinv]
  show RoundIn Fence.wide 0 P l r.fn _ r.assign r.body w _
  have hfold : (r.params.zip vs.toArray).foldl (fun tmps (t, a) => tmps.setIfInBounds t a) r.tmps = (ps.zip vs).foldl (fun t (p : Nat × Value) => t.setIfInBounds p.1 p.2) r.tmps := by
    rw [← Array.foldl_toList, Array.toList_zip, h1]
  rw [hfold]
  obtain ⟨he, hts⟩ := ER.puts (ps := ps) (ds := args) (vs := vs) h5 (fun p hp => by rw [h4]; exact hps p hp) hargs
  let M : Md := { P := P, nt := nt, r := some (id, l), gS := g, wS := w }
  have hMF : M.F = Fence.wide.inRound l := rfl
  have hx := hround M rfl rfl ⟨l, rfl⟩ hrel.next.symm hrel.wf (by rw [hrel.next]; exact RL_lt hrel.gw _ _ hargs)
  have hr0 : Rl M g w σ (putsE env0 ps args) { tmps := (ps.zip vs).foldl (fun t (p : Nat × Value) => t.setIfInBounds p.1 p.2) r.tmps, defers := [] } :=
    { gs := hrel.gw
      e := E.refl g w hrel.gw
      rel := hrel
      er := he
      nt := by show _ = nt; rw [hts, h4]
      defs := DefsOk.nil _ _ _
      rnd := fun id' l' h => by injection h with h; injection h with e1 e2; subst e1 e2; exact hat }
  refine roundIn_of_wpIn trivial ?_
  have hasg := hx r.assign h2 g w _ hr0
  rw [hMF] at hasg
  refine wpIn_mono hasg ?_
  rintro e a1 w1 ⟨g1, env1, σ1, hr1, hq⟩
  cases e with
  | normal =>
    obtain ⟨hob1, hbody⟩ := hq
    obtain ⟨l1, r1, hat1, hh1, k1, k2, k3, k4, k5, k6, k7⟩ := hr1.rel.obj id _ hob1
    have hl1 : l1 = l := by
      have := hr1.rnd id l rfl
      have h2 : g1.at_ id = some (.loop l) := this
      rw [h2] at hat1
      injection hat1 with hat1
      injection hat1 with hat1
      exact hat1.symm
    subst hl1
    have hnc : ∀ c e z, (Obj.loop r1) ≠ .cells c e z := fun _ _ _ h => by cases h
    simp only [RSt] at k7
    refine ⟨{ w1 with heap := w1.heap.setIfInBounds l1 (.loop { r1 with state := .busy }) }, ?_, ?_⟩
    · simp [Instr.beginRound, Instr.getLoop, getObj, setObj, Sem.run, hh1, k7]
    · have hr2 : Rl M g1 { w1 with heap := w1.heap.setIfInBounds l1 (.loop { r1 with state := .busy }) } (σ1.put id (.loop nt env0 ps asg body .busy)) env1 a1 :=
        hr1.goes (obj_E hr1.rel.gw hat1 hh1 hnc) (obj_rel hr1.rel hat1 hh1 hnc rfl rfl (fun j ob hj hob => by rwa [St.put_ne σ1 _ hj] at hob) (fun ob hob hev => by
          rw [St.put_same] at hob
          injection hob with hob
          subst hob
          exact ⟨l1, { r1 with state := .busy }, hat1, by simp [lt_of_heap hh1], k1, k2, k3, k4, fun t => R.ev hev _ _ (k5 t), (fun h => by cases h), rfl⟩))
      have hb := hbody r.body h3 g1 _ a1 hr2
      rw [hMF] at hb
      refine wpIn_mono hb ?_
      rintro e a2 w2 ⟨g2, env2, σ2, hr3, hob2, hq2⟩
      obtain ⟨l2, r2, hat2, hh2, j1, j2, j3, j4, j5, j6, j7⟩ := hr3.rel.obj id _ hob2
      have hl2 : l2 = l1 := by
        have h2 : g2.at_ id = some (.loop l1) := hr3.rnd id l1 rfl
        rw [h2] at hat2
        injection hat2 with hat2
        injection hat2 with hat2
        exact hat2.symm
      subst hl2
      have hnc2 : ∀ c e z, (Obj.loop r2) ≠ .cells c e z := fun _ _ _ h => by cases h
      have fin : ∀ (jump : Option Code) (st : LSt) (b : Bool), b = jump.isNone → (st matches .ready → jump = none) → RSt P nt st { r2 with state := if jump.isNone then .ready else .done, pending := jump } →
          ((σ2.put id (.loop nt env0 ps asg body st)).wf → σ.next ≤ σ2.next → ∃ σ', Drop σ.next [] σ' env2 (σ2.put id (.loop nt env0 ps asg body st)) ∧ K (.bool b) σ') → ∃ v w', (Instr.endRound l2 jump).run P w2 = .ok v w' ∧ HRet P g w K (.returned v) w' := by
        intro jump st b hb hstj hst hk
        refine ⟨.bool jump.isNone, { w2 with heap := w2.heap.setIfInBounds l2 (.loop { r2 with state := if jump.isNone then .ready else .done, pending := jump }) }, ?_, ?_⟩
        · simp [Instr.endRound, Instr.getLoop, getObj, setObj, Sem.run, hh2]
        · have hr4 : Rl M g2 { w2 with heap := w2.heap.setIfInBounds l2 (.loop { r2 with state := if jump.isNone then .ready else .done, pending := jump }) } (σ2.put id (.loop nt env0 ps asg body st)) env2 a2 :=
            hr3.goes (obj_E hr3.rel.gw hat2 hh2 hnc2) (obj_rel hr3.rel hat2 hh2 hnc2 rfl rfl (fun j ob hj hob => by rwa [St.put_ne σ2 _ hj] at hob) (fun ob hob hev => by
              rw [St.put_same] at hob
              injection hob with hob
              subst hob
              exact ⟨l2, { r2 with state := if jump.isNone then .ready else .done, pending := jump }, hat2, by simp [lt_of_heap hh2], j1, j2, j3, j4, fun t => R.ev hev _ _ (j5 t), hstj, hst⟩))
          obtain ⟨σ', hdrop, hk'⟩ := hk hr4.rel.wf (by
            have h1 := hr3.e.next
            have h2 := hr3.rel.next
            have h3 := hrel.next
            have h4 : M.gS.next = g.next := rfl
            omega)
          exact ⟨.bool b, g2.cut σ'.next, σ', hr4.e.cut hr4.gs (by rw [← hrel.next]; exact hdrop.n0), hr4.rel.cut hdrop.wf hdrop.same hdrop.glob, by simp only [R]; rw [hb], hk'⟩
      cases e with
      | normal => exact fin none .ready true rfl (fun _ => rfl) rfl hq2
      | ret => exact fin (some .ret) (.done .ret) false rfl (fun h => by cases h) ⟨rfl, .ret, rfl, rfl⟩ hq2
      | exit j => exact fin (some (.exit j)) (.done (.exit j)) false rfl (fun h => by cases h) ⟨rfl, .exit j, rfl, by simp [cmpC]⟩ hq2
      | goto t => exact hq2.elim
      | panic ch => exact hq2.elim
      | outgrown => exact hq2.elim
  | exit j => exact hq.elim
  | goto t => exact hq.elim
  | ret => exact hq.elim
  | panic ch => exact hq.elim
  | outgrown => exact hq.elim

end
end Go.Hl
