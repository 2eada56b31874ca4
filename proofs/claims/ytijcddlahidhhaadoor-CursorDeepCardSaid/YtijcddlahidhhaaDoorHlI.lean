/-
  Less may be known: objects that nothing names any more are dropped, the right to append is given up.
-/
import Derived.Test.YtijcddlahidhhaaDoorHlH
set_option linter.unusedSectionVars false
set_option linter.unusedVariables false
namespace Go.Hl
open Go

def Own.lt (n : Nat) : Own → Prop
  | .tok t => t < n
  | _ => True

mutual
def D.lt (n : Nat) : D → Prop
  | .ptr id _ => id < n
  | .yld id => id < n
  | .vec id _ => id < n
  | .vptr id _ _ _ _ => id < n
  | .sptr t xs => t < n ∧ ltX n xs
  | .eptr cs _ => ltL n cs
  | .slice o _ xs => o.lt n ∧ ltX n xs
  | .func _ caps => ltL n caps
  | .iface _ d => D.lt n d
  | .agg cs => ltL n cs
  | .tuple ds => ltL n ds
  | _ => True
def ltL (n : Nat) : List D → Prop
  | [] => True
  | d :: ds => D.lt n d ∧ ltL n ds
def ltX (n : Nat) : List (List D) → Prop
  | [] => True
  | x :: xs => ltL n x ∧ ltX n xs
end

mutual
def stripD : D → D
  | .slice _ sz xs => .slice .no sz xs
  | .agg cs => .agg (stripL cs)
  | .tuple ds => .tuple (stripL ds)
  | .iface t d => .iface t (stripD d)
  | .undef => .undef
  | .dead => .dead
  | .bool b => .bool b
  | .int k n => .int k n
  | .str s => .str s
  | .nilp => .nilp
  | .ptr id off => .ptr id off
  | .eptr cs off => .eptr cs off
  | .func f caps => .func f caps
  | .yld id => .yld id
  | .nilf => .nilf
  | .nili => .nili
  | .vec id k => .vec id k
  | .vptr id k sz i o => .vptr id k sz i o
  | .sptr t xs => .sptr t xs
def stripL : List D → List D
  | [] => []
  | d :: ds => stripD d :: stripL ds
end

section
variable {g : G} {w : World}
mutual
theorem R_strip : ∀ (d : D) (v : Value), R g w d v → R g w (stripD d) v
  | .slice o sz xs, v, h => R_no h
  | .agg cs, v, h => by
    simp only [R, stripD] at h ⊢
    obtain ⟨vs, rfl, hl⟩ := h
    exact ⟨vs, rfl, RC_strip cs _ hl⟩
  | .tuple ds, v, h => by
    simp only [R, stripD] at h ⊢
    obtain ⟨vs, rfl, hl⟩ := h
    exact ⟨vs, rfl, RL_strip ds _ hl⟩
  | .iface t d, v, h => by
    simp only [R, stripD] at h ⊢
    obtain ⟨u, rfl, hu⟩ := h
    exact ⟨u, rfl, R_strip d u hu⟩
  | .undef, v, h => by simpa only [stripD] using h
  | .dead, v, h => by simpa only [stripD] using h
  | .bool b, v, h => by simpa only [stripD] using h
  | .int k n, v, h => by simpa only [stripD] using h
  | .str s, v, h => by simpa only [stripD] using h
  | .nilp, v, h => by simpa only [stripD] using h
  | .ptr id off, v, h => by simpa only [stripD] using h
  | .eptr cs off, v, h => by simpa only [stripD] using h
  | .func f caps, v, h => by simpa only [stripD] using h
  | .yld id, v, h => by simpa only [stripD] using h
  | .nilf, v, h => by simpa only [stripD] using h
  | .nili, v, h => by simpa only [stripD] using h
  | .vec id k, v, h => by simpa only [stripD] using h
  | .vptr id k sz i o, v, h => by simpa only [stripD] using h
  | .sptr t xs, v, h => by simpa only [stripD] using h
theorem RL_strip : ∀ (ds : List D) (vs : List Value), RL g w ds vs → RL g w (stripL ds) vs
  | [], vs, h => by simpa only [stripL] using h
  | d :: ds, vs, h => by
    simp only [RL, stripL] at h ⊢
    obtain ⟨u, us, rfl, hu, hl⟩ := h
    exact ⟨u, us, rfl, R_strip d u hu, RL_strip ds us hl⟩
theorem RC_strip : ∀ (ds : List D) (vs : List Value), RC g w ds vs → RC g w (stripL ds) vs
  | [], vs, h => by simpa only [stripL] using h
  | d :: ds, vs, h => by
    simp only [RC, stripL] at h ⊢
    obtain ⟨u, us, rfl, ⟨ho, hu⟩, hl⟩ := h
    exact ⟨u, us, rfl, ⟨ho, R_strip d u hu⟩, RC_strip ds us hl⟩
end
end

def G.cut (g : G) (n : Nat) : G := { at_ := fun id => if id < n then g.at_ id else none, next := n }

theorem G.cut_some {g : G} {n id : Nat} {h : Gh} (hc : (g.cut n).at_ id = some h) : id < n ∧ g.at_ id = some h := by
  simp only [G.cut] at hc
  split at hc
  · exact ⟨by assumption, hc⟩
  · cases hc

theorem Imm.cut {g : G} {w : World} {n b o : Nat} {v : Value} (h : Imm g w b o v) : Imm (g.cut n) w b o v :=
  ⟨h.1, fun ⟨id, k, hid, hm⟩ => h.2 ⟨id, k, (G.cut_some hid).2, hm⟩⟩

section
variable {g : G} {w : World} {n : Nat}
mutual
theorem R_cut : ∀ (d : D) (v : Value), d.lt n → R g w d v → R (g.cut n) w d v
  | .slice o sz xs, v, hl, h => by
    simp only [R, D.lt] at h hl ⊢
    obtain ⟨A, cap, h1, h2, h3, h4, h5⟩ := h
    refine ⟨A, cap, h1, h2, h3, ?_, fun b off hA => RX_cut sz xs b off hl.2 (h5 b off hA)⟩
    cases o with
    | no => trivial
    | nil => exact h4
    | full => exact h4
    | tok t => exact ⟨hl.1, fun h hb => h4.2 h (G.cut_some hb).2⟩
  | .agg cs, v, hl, h => by
    simp only [R, D.lt] at h hl ⊢
    obtain ⟨vs, rfl, hc⟩ := h
    exact ⟨vs, rfl, RC_cut cs _ hl hc⟩
  | .tuple ds, v, hl, h => by
    simp only [R, D.lt] at h hl ⊢
    obtain ⟨vs, rfl, hc⟩ := h
    exact ⟨vs, rfl, RL_cut ds _ hl hc⟩
  | .iface t d, v, hl, h => by
    simp only [R, D.lt] at h hl ⊢
    obtain ⟨u, rfl, hu⟩ := h
    exact ⟨u, rfl, R_cut d u hl hu⟩
  | .undef, v, hl, h => by simp only [R]
  | .dead, v, hl, h => by simpa only [R] using h
  | .bool b, v, hl, h => by simpa only [R] using h
  | .int k n, v, hl, h => by simpa only [R] using h
  | .str s, v, hl, h => by simpa only [R] using h
  | .nilp, v, hl, h => by simpa only [R] using h
  | .ptr id off, v, hl, h => by
    simp only [R, D.lt] at h hl ⊢
    obtain ⟨b, hb, rfl⟩ := h
    exact ⟨b, by simp [G.cut, hl, hb], rfl⟩
  | .eptr cs off, v, hl, h => by
    simp only [R, D.lt] at h hl ⊢
    obtain ⟨b, o, rfl, hm⟩ := h
    exact ⟨b, o, rfl, RM_cut cs b o hl hm⟩
  | .func f caps, v, hl, h => by
    simp only [R, D.lt] at h hl ⊢
    obtain ⟨cv, rfl, hc⟩ := h
    exact ⟨cv, rfl, RL_cut caps _ hl hc⟩
  | .yld id, v, hl, h => by
    simp only [R, D.lt] at h hl ⊢
    obtain ⟨l, hb, rfl⟩ := h
    exact ⟨l, by simp [G.cut, hl, hb], rfl⟩
  | .nilf, v, hl, h => by simpa only [R] using h
  | .nili, v, hl, h => by simpa only [R] using h
  | .vec id k, v, hl, h => by
    simp only [R, D.lt] at h hl ⊢
    exact ⟨hl, h.2.1, fun b off len cap k' hb => h.2.2 b off len cap k' (G.cut_some hb).2⟩
  | .vptr id k sz i o, v, hl, h => by
    simp only [R, D.lt] at h hl ⊢
    exact ⟨hl, h.2.1, fun b off len cap k' hb => h.2.2 b off len cap k' (G.cut_some hb).2⟩
  | .sptr t xs, v, hl, h => by
    simp only [R, D.lt] at h hl ⊢
    exact ⟨hl.1, h.2.1, fun k hk => h.2.2.1 k (G.cut_some hk).2, fun b off hv => RX_cut 1 xs b off hl.2 (h.2.2.2 b off hv)⟩
theorem RL_cut : ∀ (ds : List D) (vs : List Value), ltL n ds → RL g w ds vs → RL (g.cut n) w ds vs
  | [], vs, hl, h => by simpa only [RL] using h
  | d :: ds, vs, hl, h => by
    simp only [RL, ltL] at h hl ⊢
    obtain ⟨u, us, rfl, hu, hc⟩ := h
    exact ⟨u, us, rfl, R_cut d u hl.1 hu, RL_cut ds us hl.2 hc⟩
theorem RC_cut : ∀ (ds : List D) (vs : List Value), ltL n ds → RC g w ds vs → RC (g.cut n) w ds vs
  | [], vs, hl, h => by simpa only [RC] using h
  | d :: ds, vs, hl, h => by
    simp only [RC, ltL] at h hl ⊢
    obtain ⟨u, us, rfl, ⟨ho, hu⟩, hc⟩ := h
    exact ⟨u, us, rfl, ⟨ho, R_cut d u hl.1 hu⟩, RC_cut ds us hl.2 hc⟩
theorem RM_cut : ∀ (ds : List D) (b o : Nat), ltL n ds → RM g w ds b o → RM (g.cut n) w ds b o
  | [], b, o, hl, h => by simp only [RM]
  | d :: ds, b, o, hl, h => by
    simp only [RM, ltL] at h hl ⊢
    obtain ⟨⟨u, hi, ho, hu⟩, hm⟩ := h
    exact ⟨⟨u, hi.cut, ho, R_cut d u hl.1 hu⟩, RM_cut ds b (o + 1) hl.2 hm⟩
theorem RX_cut (sz : Nat) : ∀ (xs : List (List D)) (b o : Nat), ltX n xs → RX g w sz xs b o → RX (g.cut n) w sz xs b o
  | [], b, o, hl, h => by simp only [RX]
  | x :: xs, b, o, hl, h => by
    simp only [RX, ltX] at h hl ⊢
    exact ⟨h.1, RM_cut x b o hl.1 h.2.1, RX_cut sz xs b (o + sz) hl.2 h.2.2⟩
end
end

section
variable {g : G} {w : World} (hg : GW g w)
include hg
mutual
theorem R_lt : ∀ (d : D) (v : Value), R g w d v → d.lt g.next
  | .slice o sz xs, v, h => by
    simp only [R, D.lt] at h ⊢
    obtain ⟨A, cap, h1, h2, h3, h4, h5⟩ := h
    refine ⟨?_, ?_⟩
    · cases o with
      | tok t => exact h4.1
      | _ => trivial
    · cases A with
      | none =>
        simp only [SliceAt] at h3
        have : xs = [] := List.eq_nil_of_length_eq_zero h3.1
        subst this
        simp only [ltX]
      | some ad =>
        by_cases h0 : xs = []
        · subst h0
          simp only [ltX]
        obtain ⟨b, off, sp⟩ := ad
        have h3 := h3.spot h2 (List.length_pos_iff.2 h0)
        simp only at h3
        subst h3
        exact RX_lt sz xs b off (h5 b off rfl)
  | .agg cs, v, h => by
    simp only [R, D.lt] at h ⊢
    obtain ⟨vs, rfl, hc⟩ := h
    exact RC_lt cs _ hc
  | .tuple ds, v, h => by
    simp only [R, D.lt] at h ⊢
    obtain ⟨vs, rfl, hc⟩ := h
    exact RL_lt ds _ hc
  | .iface t d, v, h => by
    simp only [R, D.lt] at h ⊢
    obtain ⟨u, rfl, hu⟩ := h
    exact R_lt d u hu
  | .ptr id off, v, h => by
    simp only [R, D.lt] at h ⊢
    obtain ⟨b, hb, rfl⟩ := h
    exact hg.lt id _ hb
  | .eptr cs off, v, h => by
    simp only [R, D.lt] at h ⊢
    obtain ⟨b, o, rfl, hm⟩ := h
    exact RM_lt cs b o hm
  | .func f caps, v, h => by
    simp only [R, D.lt] at h ⊢
    obtain ⟨cv, rfl, hc⟩ := h
    exact RL_lt caps _ hc
  | .yld id, v, h => by
    simp only [R, D.lt] at h ⊢
    obtain ⟨l, hb, rfl⟩ := h
    exact hg.lt id _ hb
  | .undef, v, h => by simp only [D.lt]
  | .dead, v, h => by simp only [D.lt]
  | .bool b, v, h => by simp only [D.lt]
  | .int k n, v, h => by simp only [D.lt]
  | .str s, v, h => by simp only [D.lt]
  | .nilp, v, h => by simp only [D.lt]
  | .nilf, v, h => by simp only [D.lt]
  | .nili, v, h => by simp only [D.lt]
  | .vec id k, v, h => by
    simp only [R, D.lt] at h ⊢
    exact h.1
  | .vptr id k sz i o, v, h => by
    simp only [R, D.lt] at h ⊢
    exact h.1
  | .sptr t xs, v, h => by
    simp only [R, D.lt] at h ⊢
    refine ⟨h.1, ?_⟩
    obtain ⟨p, hp, h1, h2⟩ := h.2.1
    cases p with
    | none =>
      have := h1 rfl
      subst this
      simp only [ltX]
    | some ad =>
      obtain ⟨b, off, sp⟩ := ad
      have := h2 _ rfl
      simp only at this
      subst this
      exact RX_lt 1 xs b off (h.2.2.2 b off hp)
theorem RL_lt : ∀ (ds : List D) (vs : List Value), RL g w ds vs → ltL g.next ds
  | [], vs, h => by simp only [ltL]
  | d :: ds, vs, h => by
    simp only [RL, ltL] at h ⊢
    obtain ⟨u, us, rfl, hu, hc⟩ := h
    exact ⟨R_lt d u hu, RL_lt ds us hc⟩
theorem RC_lt : ∀ (ds : List D) (vs : List Value), RC g w ds vs → ltL g.next ds
  | [], vs, h => by simp only [ltL]
  | d :: ds, vs, h => by
    simp only [RC, ltL] at h ⊢
    obtain ⟨u, us, rfl, ⟨ho, hu⟩, hc⟩ := h
    exact ⟨R_lt d u hu, RC_lt ds us hc⟩
theorem RM_lt : ∀ (ds : List D) (b o : Nat), RM g w ds b o → ltL g.next ds
  | [], b, o, h => by simp only [ltL]
  | d :: ds, b, o, h => by
    simp only [RM, ltL] at h ⊢
    obtain ⟨⟨u, hi, ho, hu⟩, hm⟩ := h
    exact ⟨R_lt d u hu, RM_lt ds b (o + 1) hm⟩
theorem RX_lt (sz : Nat) : ∀ (xs : List (List D)) (b o : Nat), RX g w sz xs b o → ltX g.next xs
  | [], b, o, h => by simp only [ltX]
  | x :: xs, b, o, h => by
    simp only [RX, ltX] at h ⊢
    exact ⟨RM_lt x b o h.2.1, RX_lt sz xs b (o + sz) h.2.2⟩
end
end

end Go.Hl
