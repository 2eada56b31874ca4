/-
  Dropping; loops; functions.
-/
import Derived.Test.YtijcddlahidhhaaDoorHlI
set_option linter.unusedSectionVars false
set_option linter.unusedVariables false
namespace Go.Hl
open Go

def Ob.lt (n : Nat) : Ob → Prop
  | .bx _ cs => ltL n cs
  | .tok _ _ => True
  | .tokF _ _ => True
  | .vec _ _ xs => ltX n xs
  | .loop _ env _ _ _ _ => ∀ t, (look env t).lt n

theorem ltL_append {n : Nat} : ∀ {xs ys : List D}, ltL n (xs ++ ys) ↔ ltL n xs ∧ ltL n ys
  | [], ys => by simp [ltL]
  | x :: xs, ys => by simp only [List.cons_append, ltL, ltL_append (xs := xs), and_assoc]

theorem ltX_flat {n : Nat} : ∀ {xs : List (List D)}, ltX n xs ↔ ltL n xs.flatten
  | [] => by simp [ltX, ltL]
  | x :: xs => by simp only [List.flatten_cons, ltX, ltL_append, ltX_flat (xs := xs)]

structure St.wf (σ : St) : Prop where
  obj : ∀ id o, σ.obj id = some o → id < σ.next ∧ o.lt σ.next
  glob : ∀ k cs, σ.glob k = some cs → ltL σ.next cs

theorem Rel.wf {P : Program} {g : G} {σ : St} {w : World} (h : Rel P g σ w) : σ.wf where
  obj := fun id o ho => by
    have hro := h.obj id o ho
    rw [h.next]
    cases o with
    | bx t cs =>
      obtain ⟨b, c, e, ha, _, hc, _⟩ := hro
      exact ⟨h.gw.lt id _ ha, RC_lt h.gw _ _ hc⟩
    | tok e n =>
      rcases hro with ⟨b, f, ha, _⟩ | ⟨ha, _⟩
      · exact ⟨h.gw.lt id _ ha, trivial⟩
      · exact ⟨h.gw.lt id _ ha, trivial⟩
    | tokF e n => exact ⟨h.gw.lt id _ hro, trivial⟩
    | vec k sz xs =>
      obtain ⟨b, off, cap, c, e, ha, _, _, _, _, hR⟩ := hro
      exact ⟨h.gw.lt id _ ha, ltX_flat.2 (RC_lt h.gw _ _ hR)⟩
    | loop nt env ps asg body st =>
      obtain ⟨l, r, ha, _, _, _, _, _, he, _⟩ := hro
      exact ⟨h.gw.lt id _ ha, fun t => R_lt h.gw _ _ (he t)⟩
  glob := fun k cs hc => by
    rw [h.next]
    exact RM_lt h.gw _ _ _ (h.glob k cs hc).rm

theorem E.cut {gS g : G} {wS w : World} (h : E gS wS g w) (hs : GW gS wS) {n : Nat} (hn : gS.next ≤ n) : E gS wS (g.cut n) w where
  out := h.out
  next := hn
  size := h.size
  old := fun id k hlt hc => h.old id k hlt (G.cut_some hc).2
  keep := fun id k ha hne => by
    have := hs.lt id k ha
    simp only [G.cut]
    rw [if_pos (by omega)]
    exact h.keep id k ha hne
  new := fun id k hle hc => h.new id k hle (G.cut_some hc).2
  still := h.still
  arr := h.arr

theorem GW.cut {g : G} {w : World} (h : GW g w) (n : Nat) : GW (g.cut n) w where
  lt := fun id k hc => (G.cut_some hc).1
  bl := fun id k b hc hb => h.bl id k b (G.cut_some hc).2 hb
  inj := fun i j k k' b hi hj hb hb' => h.inj i j k k' b (G.cut_some hi).2 (G.cut_some hj).2 hb hb'
  arr := fun t b f n e hc => h.arr t b f n e (G.cut_some hc).2

theorem Rel.cut {P : Program} {g : G} {σ σ' : St} {w : World} (h : Rel P g σ w) (hwf : σ'.wf) (hsame : ∀ id o, σ'.obj id = some o → σ.obj id = some o) (hglob : σ'.glob = σ.glob) :
    Rel P (g.cut σ'.next) σ' w where
  gw := h.gw.cut _
  next := rfl
  obj := fun id o ho => by
    obtain ⟨hlt, hol⟩ := hwf.obj id o ho
    have hro := h.obj id o (hsame id o ho)
    have hcut : ∀ k, g.at_ id = some k → (g.cut σ'.next).at_ id = some k := fun k hk => by simp [G.cut, hlt, hk]
    cases o with
    | bx t cs =>
      obtain ⟨b, c, e, ha, hh, hc, ht⟩ := hro
      exact ⟨b, c, e, hcut _ ha, hh, RC_cut _ _ hol hc, ht⟩
    | tok e n =>
      rcases hro with ⟨b, f, ha, hn⟩ | ⟨ha, hn⟩
      · exact .inl ⟨b, f, hcut _ ha, hn⟩
      · exact .inr ⟨hcut _ ha, hn⟩
    | tokF e n => exact hcut _ hro
    | vec k sz xs =>
      obtain ⟨b, off, cap, c, e, ha, hh, h1, h2, h3, hR⟩ := hro
      exact ⟨b, off, cap, c, e, hcut _ ha, hh, h1, h2, h3, RC_cut _ _ (ltX_flat.1 hol) hR⟩
    | loop nt env ps asg body st =>
      obtain ⟨l, r, ha, hh, h1, h2, h3, h4, he, h6, h7⟩ := hro
      exact ⟨l, r, hcut _ ha, hh, h1, h2, h3, h4, fun t => R_cut _ _ (hol t) (he t), h6, h7⟩
  glob := fun k cs hc => by
    obtain ⟨⟨c, e, z, hh, hcc⟩, hf⟩ := h.glob k cs (by rw [← hglob]; exact hc)
    exact ⟨⟨c, e, z, hh, RC_cut _ _ (hwf.glob k cs hc) hcc⟩, fun id h' hid => hf id h' (G.cut_some hid).2⟩

mutual
def frzD (F : Nat → Option (List D)) (st : Bool) : D → D
  | .ptr id off => match F id with
    | some cs => .eptr cs off
    | none => .ptr id off
  | .slice o sz xs => .slice (if st then .no else o) sz xs
  | .func f caps => .func f (frzL F st caps)
  | .agg cs => .agg (frzL F st cs)
  | .tuple ds => .tuple (frzL F st ds)
  | .iface t d => .iface t (frzD F st d)
  | .eptr cs off => .eptr cs off
  | .undef => .undef
  | .dead => .dead
  | .bool b => .bool b
  | .int k n => .int k n
  | .str s => .str s
  | .nilp => .nilp
  | .yld id => .yld id
  | .nilf => .nilf
  | .nili => .nili
  | .vec id k => .vec id k
  | .vptr id k sz i o => .vptr id k sz i o
  | .sptr t xs => .sptr t xs
def frzL (F : Nat → Option (List D)) (st : Bool) : List D → List D
  | [] => []
  | d :: ds => frzD F st d :: frzL F st ds
end

mutual
theorem frzD_id : ∀ d, frzD (fun _ => none) false d = d
  | .ptr id off => rfl
  | .slice o sz xs => rfl
  | .func f caps => by simp only [frzD, frzL_id]
  | .agg cs => by simp only [frzD, frzL_id]
  | .tuple ds => by simp only [frzD, frzL_id]
  | .iface t d => by simp only [frzD, frzD_id]
  | .eptr cs off => rfl
  | .undef => rfl
  | .dead => rfl
  | .bool b => rfl
  | .int k n => rfl
  | .str s => rfl
  | .nilp => rfl
  | .yld id => rfl
  | .nilf => rfl
  | .nili => rfl
  | .vec id k => rfl
  | .vptr id k sz i o => rfl
  | .sptr t xs => rfl
theorem frzL_id : ∀ ds, frzL (fun _ => none) false ds = ds
  | [] => rfl
  | d :: ds => by simp only [frzL, frzD_id, frzL_id]
end

section
variable {P : Program} {g : G} {σ : St} {w : World} {n : Nat} {F : Nat → Option (List D)} {st : Bool} (hrel : Rel P g σ w) (hF : ∀ id cs, F id = some cs → n ≤ id ∧ σ.obj id = some (.box cs))
include hrel hF
mutual
theorem R_frz : ∀ (d : D) (v : Value), (frzD F st d).lt n → R g w d v → R (g.cut n) w (frzD F st d) v
  | .ptr id off, v, hl, h => by
    simp only [frzD] at hl ⊢
    cases e : F id with
    | none => simp only [e] at hl ⊢; exact R_cut _ _ hl h
    | some cs =>
      simp only [e] at hl ⊢
      obtain ⟨hle, hob⟩ := hF id cs e
      obtain ⟨b, c, e', ha, hb, hc, _⟩ := hrel.obj id _ hob
      simp only [R] at h ⊢
      obtain ⟨b2, hb2, rfl⟩ := h
      rw [ha] at hb2
      injection hb2 with hb2
      injection hb2 with hb2
      subst hb2
      simp only [D.lt] at hl
      refine ⟨b, 0, by rw [Nat.zero_add], RM.of_get fun i d hd => ?_⟩
      obtain ⟨u, hu, ho, hr⟩ := (RC_cut cs _ hl hc).get hd
      refine ⟨u, ⟨⟨c, e', (0, 0), hb, by simpa using hu⟩, ?_⟩, ho, hr⟩
      rintro ⟨id', k, hid, hm⟩
      obtain ⟨q1, q2⟩ := G.cut_some hid
      have := hrel.gw.inj id' id k _ b q2 ha (Gh.mut_block hm) rfl
      omega
  | .slice o sz xs, v, hl, h => by
    simp only [frzD] at hl ⊢
    cases st
    · exact R_cut _ _ hl h
    · exact R_cut _ _ hl (R_no h)
  | .func f caps, v, hl, h => by
    simp only [frzD, D.lt, R] at hl h ⊢
    obtain ⟨cv, rfl, hc⟩ := h
    exact ⟨cv, rfl, RL_frz caps _ hl hc⟩
  | .agg cs, v, hl, h => by
    simp only [frzD, D.lt, R] at hl h ⊢
    obtain ⟨vs, rfl, hc⟩ := h
    exact ⟨vs, rfl, RC_frz cs _ hl hc⟩
  | .tuple ds, v, hl, h => by
    simp only [frzD, D.lt, R] at hl h ⊢
    obtain ⟨vs, rfl, hc⟩ := h
    exact ⟨vs, rfl, RL_frz ds _ hl hc⟩
  | .iface t d, v, hl, h => by
    simp only [frzD, D.lt, R] at hl h ⊢
    obtain ⟨u, rfl, hu⟩ := h
    exact ⟨u, rfl, R_frz d u hl hu⟩
  | .eptr cs off, v, hl, h => R_cut _ _ hl h
  | .undef, v, hl, h => R_cut _ _ hl h
  | .dead, v, hl, h => R_cut _ _ hl h
  | .bool b, v, hl, h => R_cut _ _ hl h
  | .int k n, v, hl, h => R_cut _ _ hl h
  | .str s, v, hl, h => R_cut _ _ hl h
  | .nilp, v, hl, h => R_cut _ _ hl h
  | .yld id, v, hl, h => R_cut _ _ hl h
  | .nilf, v, hl, h => R_cut _ _ hl h
  | .nili, v, hl, h => R_cut _ _ hl h
  | .vec id k, v, hl, h => R_cut _ _ hl h
  | .vptr id k sz i o, v, hl, h => R_cut _ _ hl h
  | .sptr t xs, v, hl, h => R_cut _ _ hl h
theorem RL_frz : ∀ (ds : List D) (vs : List Value), ltL n (frzL F st ds) → RL g w ds vs → RL (g.cut n) w (frzL F st ds) vs
  | [], vs, hl, h => by simpa only [RL, frzL] using h
  | d :: ds, vs, hl, h => by
    simp only [RL, frzL, ltL] at h hl ⊢
    obtain ⟨u, us, rfl, hu, hc⟩ := h
    exact ⟨u, us, rfl, R_frz d u hl.1 hu, RL_frz ds us hl.2 hc⟩
theorem RC_frz : ∀ (ds : List D) (vs : List Value), ltL n (frzL F st ds) → RC g w ds vs → RC (g.cut n) w (frzL F st ds) vs
  | [], vs, hl, h => by simpa only [RC, frzL] using h
  | d :: ds, vs, hl, h => by
    simp only [RC, frzL, ltL] at h hl ⊢
    obtain ⟨u, us, rfl, ⟨ho, hu⟩, hc⟩ := h
    exact ⟨u, us, rfl, ⟨ho, R_frz d u hl.1 hu⟩, RC_frz ds us hl.2 hc⟩
end
end

structure Drop (n0 : Nat) (env' : Env) (σ' : St) (env : Env) (σ : St) : Prop where
  n0 : n0 ≤ σ'.next
  next : σ'.next ≤ σ.next
  wf : σ'.wf
  same : ∀ id o, σ'.obj id = some o → σ.obj id = some o
  glob : σ'.glob = σ.glob
  env : ∀ p ∈ env', (p.2 = look env p.1 ∨ p.2 = stripD (look env p.1)) ∧ p.2.lt σ'.next

theorem look_mem : ∀ {env : Env} {t : Nat}, look env t = .undef ∨ ∃ p ∈ env, p.1 = t ∧ p.2 = look env t
  | [], t => .inl rfl
  | (k, d) :: r, t => by
    simp only [look]
    split
    · rename_i e; exact .inr ⟨(k, d), by simp, e, rfl⟩
    · rcases look_mem (env := r) (t := t) with h | ⟨p, hp, h1, h2⟩
      · exact .inl h
      · exact .inr ⟨p, by simp [hp], h1, h2⟩

theorem ER.drop {n0 : Nat} {g : G} {w : World} {env env' : Env} {σ σ' : St} {tmps : Array Value} (hd : Drop n0 env' σ' env σ) (h : ER g w env tmps) : ER (g.cut σ'.next) w env' tmps := fun t => by
  rcases look_mem (env := env') (t := t) with e | ⟨p, hp, h1, h2⟩
  · rw [e]; simp only [R]
  · obtain ⟨h3, h4⟩ := hd.env p hp
    rw [← h2]
    refine R_cut _ _ h4 ?_
    rw [h1] at h3
    rcases h3 with e | e <;> rw [e]
    · exact h t
    · exact R_strip _ _ (h t)

section
variable {M : Md} {base : HPost} {k : List It} {env : Env} {σ : St}

theorem Rl.drop {g : G} {w : World} {env' : Env} {σ' : St} {a : Act} (hr : Rl M g w σ env a) (hd : Drop M.gS.next env' σ' env σ) (hrnd : ∀ id l, M.r = some (id, l) → id < σ'.next) : Rl M (g.cut σ'.next) w σ' env' a where
  gs := hr.gs
  e := hr.e.cut hr.gs hd.n0
  rel := hr.rel.cut hd.wf hd.same hd.glob
  er := hr.er.drop hd
  nt := hr.nt
  defs := by
    obtain ⟨bs, h1, h2, h3⟩ := hr.defs
    exact ⟨bs, h1, h2, fun b hb => ⟨(h3 b hb).1, (h3 b hb).2.1, fun id h hc => (h3 b hb).2.2 id h (G.cut_some hc).2⟩⟩
  rnd := fun id l h => by simp [G.cut, hrnd id l h, hr.rnd id l h]

theorem exists_min (p : Nat → Prop) (h : ∃ n, p n) : ∃ n, p n ∧ ∀ m, p m → n ≤ m := by
  obtain ⟨n, hn⟩ := h
  induction n using Nat.strongRecOn with
  | _ n ih =>
    by_cases hm : ∃ m, m < n ∧ p m
    · obtain ⟨m, hlt, hp⟩ := hm
      exact ih m hlt hp
    · refine ⟨n, hn, fun m hp => ?_⟩
      rcases Nat.lt_or_ge m n with h | h
      · exact absurd ⟨m, h, hp⟩ hm
      · exact h

theorem hx_loop {S : Type} {c : HC} (En : S → Env) (T : S → St) (Inv : S → Prop) (μ : S → Nat) (s0 : S) (h0 : Inv s0) (hr : ∀ id l, M.r = some (id, l) → ∀ s, Inv s → id < (T s).next)
    (hd0 : Drop M.gS.next (En s0) (T s0) env σ)
    (round : ∀ s, Inv s → HX M base (.code c :: .stop (fun env' σ' => σ'.wf → (∀ t, (look env' t).lt σ'.next) → M.gS.next ≤ σ'.next → ∃ s', Inv s' ∧ μ s' < μ s ∧ Drop M.gS.next (En s') (T s') env' σ') :: k) (En s) (T s)) :
    HX M base (.code (.loop c) :: k) env σ := by
  intro cc hc g w a hrl
  cases cc <;> simp only [cmpC, Bool.false_eq_true] at hc
  rename_i body
  let p : Act → World → Nat → Prop := fun a w n => ∃ s g, Inv s ∧ Rl M g w (T s) (En s) a ∧ μ s = n
  have hmin : ∀ a w, (∃ n, p a w n) → ∃ n, p a w n ∧ ∀ m, p a w m → n ≤ m := fun a w h => exists_min _ h
  have hI0 : ∃ n, p a w n := ⟨μ s0, s0, _, h0, hrl.drop hd0 (fun id l h => hr id l h s0 h0), rfl⟩
  refine wpIn_loop (fun a w => ∃ n, p a w n) (fun a w => Classical.epsilon fun n => p a w n ∧ ∀ m, p a w m → n ≤ m) hI0 ?_
  intro a w hI
  have hsp := Classical.epsilon_spec (hmin a w hI)
  obtain ⟨⟨s, g, hs, hrl, hμ⟩, hle⟩ := hsp
  have := round s hs body hc g w a hrl
  refine wpIn_mono this ?_
  rintro e a' w' ⟨g', env', σ', hr', hq⟩
  cases e with
  | normal =>
    obtain ⟨s', hs', hlt, hd⟩ := hq hr'.rel.wf (fun t => by rw [hr'.rel.next]; exact R_lt hr'.rel.gw _ _ (hr'.er t)) (by rw [hr'.rel.next]; exact hr'.e.next)
    have hp' : p a' w' (μ s') := ⟨s', _, hs', hr'.drop hd (fun id l h => hr id l h s' hs'), rfl⟩
    refine ⟨⟨_, hp'⟩, ?_⟩
    have hsp' := Classical.epsilon_spec (hmin a' w' ⟨_, hp'⟩)
    have := hsp'.2 _ hp'
    omega
  | _ => exact ⟨g', env', σ', hr', hq⟩

end
end Go.Hl
