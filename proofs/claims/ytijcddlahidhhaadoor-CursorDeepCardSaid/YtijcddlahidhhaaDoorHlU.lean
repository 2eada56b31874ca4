/-
  Regions that draw their order and whose effects are in no fixed order: what is known is told for each set of operations that are done.
-/
import Derived.Test.YtijcddlahidhhaaDoorHlP
set_option linter.unusedSectionVars false
set_option linter.unusedVariables false
namespace Go.Hl
open Go

def useV (nt : Nat) (env : Env) (V : Nat → D) (uses : List (Nat × Nat)) : Env := uses.map fun u => (u.1, if u.2 < nt then look env u.2 else V (u.2 - nt))

def upd {α : Type} (V : Nat → α) (i : Nat) (x : α) : Nat → α := fun j => if j = i then x else V j

inductive StepV (P : Program) (e : Env) (d : DI) (σ : St) : (D → St → Prop) → Prop
  | op {v : D} {σ' : St} {p : Prop} : guardB e d.guard = some true → hstep σ (evX σ e) d.op = some (v, σ', p) → p → StepV P e d σ fun x s => x = v ∧ s = σ'
  | not : guardB e d.guard = some false → StepV P e d σ fun x s => x = .dead ∧ s = σ
  | call {f : X} {args : List X} {Q : D → St → Prop} : d.op = .call f args → guardB e d.guard = some true → HCallD P (evX σ e f) (args.map (evX σ e)) σ Q → StepV P e d σ Q

def allD (i : Nat) : List DI → (Nat → DI → Prop) → Prop
  | [], _ => True
  | d :: D, F => F i d ∧ allD (i + 1) D F

theorem allD_spec {F : Nat → DI → Prop} : ∀ {D : List DI} {i : Nat}, allD i D F → ∀ (j : Nat) d, D[j]? = some d → F (i + j) d
  | [], i, _, j, d, h => by simp at h
  | x :: D, i, h, 0, d, hj => by
    simp at hj
    subst hj
    exact h.1
  | x :: D, i, h, j + 1, d, hj => by
    have := allD_spec h.2 j d (by simpa using hj)
    rwa [show i + 1 + j = i + (j + 1) by omega] at this

def dFinV (V : Nat → D) : Nat → List DI → Env → Env
  | _, [], e => e
  | i, d :: D, e => match d.dst with
    | some t => dFinV V (i + 1) D (putE e t (V i))
    | none => dFinV V (i + 1) D e

structure DSt (M : Md) (D : List DI) (env : Env) (V : Nat → Go.Hl.D) (listed : Array Bool) (g : G) (w : World) (σ : St) (a : Act) : Prop where
  rl : Rl M g w σ [] a
  size : listed.size = D.length
  old : ∀ t, t < M.nt → (∀ (j : Nat) d, D[j]? = some d → d.dst = some t → listed.getD j true = false) → R g w (look env t) (a.tmps.getD t Go.undef)
  val : ∀ (j : Nat) d t, D[j]? = some d → d.dst = some t → listed.getD j true = true → R g w (V j) (a.tmps.getD t Go.undef)
  clos : ∀ (i j : Nat), i < D.length → listed.getD i true = true → (ancOf D i).testBit j = true → listed.getD j true = true ∧ j < D.length

section
variable {M : Md} {base : HPost} {kont : List It} {D : List DI} {env : Env} {σ : St}

theorem DSt.uses_ER {V : Nat → Go.Hl.D} {listed : Array Bool} {g : G} {w : World} {a : Act} (hdr : DSt M D env V listed g w σ a) {i : Nat} {d : DI} (hd : D[i]? = some d)
    (hu : listed.getD i true = false) (hpre : ∀ j, d.anc.testBit j = true → listed.getD j true = true ∧ j < D.length) (huse : (d.uses.all (useOk M.nt D i d.anc)) = true) : ER g w (useV M.nt env V d.uses) a.tmps := by
  have hi := (List.getElem?_eq_some_iff.1 hd).1
  have key : ∀ (us : List (Nat × Nat)), (∀ u ∈ us, useOk M.nt D i d.anc u = true) → ER g w (useV M.nt env V us) a.tmps := by
    intro us
    induction us with
    | nil => intro _ t; simp only [useV, List.map_nil, look, R]
    | cons u us ih =>
      intro h t
      simp only [useV, List.map_cons, look]
      split
      · rename_i e
        subst e
        have := h u (by simp)
        simp only [useOk] at this
        split at this
        · rename_i hlt
          simp only [Bool.and_eq_true, beq_iff_eq] at this
          obtain ⟨h1, hl⟩ := this
          rw [if_pos hlt, ← h1]
          refine hdr.old u.1 (by omega) fun j d' hj hdt => ?_
          rcases laterAll_spec hl hj hdt with e | e
          · simp only [Nat.zero_add] at e
            subst e
            exact hu
          · cases hlj : listed.getD j true
            · rfl
            · have hjl := (List.getElem?_eq_some_iff.1 hj).1
              have := (hdr.clos j i hjl hlj (by simp [ancOf, hj, e])).1
              rw [hu] at this
              cases this
        · rename_i hge
          simp only [Bool.and_eq_true, beq_iff_eq] at this
          obtain ⟨h1, h2⟩ := this
          rw [if_neg hge]
          cases hj : D[u.2 - M.nt]? with
          | none => simp [hj] at h1
          | some d' =>
            simp only [hj, Option.map_some, Option.some.injEq] at h1
            exact hdr.val (u.2 - M.nt) d' u.1 hj h1 (hpre _ h2).1
      · exact ih (fun v hv => h v (by simp [hv])) t
  exact key d.uses fun u hu => List.all_eq_true.1 huse u hu

theorem DSt.next {V : Nat → Go.Hl.D} {listed : Array Bool} {g g' : G} {w w' : World} {a : Act} {σ' : St} {i : Nat} {d : DI} {o : Oper} {x : Go.Hl.D} {v : Value} (hdr : DSt M D env V listed g w σ a) (hd : D[i]? = some d) (hdo : o.dst = d.dst)
    (hlt : (match d.dst with | some t => decide (t < M.nt) | none => true) = true) (hds : dstsOk (D.map (·.dst)) = true)
    (hu : listed.getD i true = false) (hpre : ∀ j, d.anc.testBit j = true → listed.getD j true = true ∧ j < D.length)
    (hE : E g w g' w') (hR : Rel M.P g' σ' w') (hv : R g' w' x v) :
    DSt M D env (upd V i x) (listed.setIfInBounds i true) g' w' σ' (a.put o.dst v) := by
  have hi := (List.getElem?_eq_some_iff.1 hd).1
  have his : i < listed.size := by rw [hdr.size]; exact hi
  have hlist : ∀ j, j ≠ i → (listed.setIfInBounds i true).getD j true = listed.getD j true := fun j hj => getD_set_ne true (Ne.symm hj)
  have hself : (listed.setIfInBounds i true).getD i true = true := getD_set_self true his
  have hput : ∀ t, t < M.nt → (a.put o.dst v).tmps.getD t Go.undef = if d.dst = some t then v else a.tmps.getD t Go.undef := by
    intro t ht
    rw [hdo]
    cases hdd : d.dst with
    | none => simp [Act.put]
    | some s =>
      simp only [Act.put, Option.some.injEq]
      split
      · rename_i e
        subst e
        rw [Array.getD_eq_getD_getElem?, Array.getElem?_setIfInBounds_self_of_lt (by rw [hdr.rl.nt]; exact ht)]
        rfl
      · rename_i e
        rw [Array.getD_eq_getD_getElem?, Array.getElem?_setIfInBounds_ne (fun h => e h), ← Array.getD_eq_getD_getElem?]
  refine ⟨?_, by simp [hdr.size], fun t ht hall => ?_, fun j dj t hj hdj hl => ?_, fun j1 j2 hj1 hl hb => ?_⟩
  · have hlt' : (match o.dst with | some t => decide (t < M.nt) | none => true) = true := by rw [hdo]; exact hlt
    have := hdr.rl.put (dst := o.dst) (d := .undef) hE hR (v := v) (by simp only [R]) hlt'
    refine ⟨this.gs, this.e, this.rel, fun t => by simp only [look, R], this.nt, this.defs, this.rnd⟩
  · have hne : ¬ d.dst = some t := fun e => by
      have := hall i d hd e
      rw [hself] at this
      cases this
    rw [hput t ht, if_neg hne]
    refine R.mono hE hdr.rl.rel.gw _ _ (hdr.old t ht fun j d' hj hdj => ?_)
    have := hall j d' hj hdj
    rwa [hlist j (fun e => by subst e; rw [hd] at hj; injection hj with hj; subst hj; exact hne hdj)] at this
  · by_cases e : j = i
    · subst e
      rw [hd] at hj
      injection hj with hj
      subst hj
      have htlt : t < M.nt := by rw [hdj] at hlt; simpa using hlt
      rw [hput t htlt, if_pos hdj]
      simpa only [upd, if_true] using hv
    · rw [hlist j e] at hl
      have hne : ¬ d.dst = some t := fun h => e (dstsOk_spec (t := t) hds (by simp [hj, hdj]) (by simp [hd, h]))
      have hR0 := hdr.val j dj t hj hdj hl
      simp only [upd, if_neg e]
      have : (a.put o.dst v).tmps.getD t Go.undef = a.tmps.getD t Go.undef := by
        rw [hdo]
        cases hdd : d.dst with
        | none => simp [Act.put]
        | some s =>
          simp only [Act.put]
          rw [Array.getD_eq_getD_getElem?, Array.getElem?_setIfInBounds_ne (fun h => hne (by rw [hdd, h])), ← Array.getD_eq_getD_getElem?]
      rw [this]
      exact R.mono hE hdr.rl.rel.gw _ _ hR0
  · by_cases e : j1 = i
    · subst e
      have hb' : d.anc.testBit j2 = true := by simpa [ancOf, hd] using hb
      obtain ⟨h1, h2⟩ := hpre j2 hb'
      refine ⟨?_, h2⟩
      by_cases e2 : j2 = j1
      · subst e2; exact hself
      · rw [hlist j2 e2]; exact h1
    · rw [hlist j1 e] at hl
      obtain ⟨h1, h2⟩ := hdr.clos j1 j2 hj1 hl hb
      refine ⟨?_, h2⟩
      by_cases e2 : j2 = i
      · subst e2; exact hself
      · rw [hlist j2 e2]; exact h1

theorem look_dFinV (V : Nat → Go.Hl.D) : ∀ (D : List DI) (i : Nat) (e : Env) (t : Nat), dstsOk (D.map (·.dst)) = true →
    ((∀ (j : Nat) d, D[j]? = some d → d.dst ≠ some t) → look (dFinV V i D e) t = look e t) ∧
    (∀ (j : Nat) d, D[j]? = some d → d.dst = some t → look (dFinV V i D e) t = V (i + j))
  | [], i, e, t, _ => ⟨fun _ => rfl, fun j d h => by simp at h⟩
  | x :: D, i, e, t, hd => by
    have hd' := hd
    simp only [List.map_cons, dstsOk, Bool.and_eq_true] at hd
    simp only [dFinV]
    cases hx : x.dst with
    | none =>
      obtain ⟨h1, h2⟩ := look_dFinV V D (i + 1) e t hd.2
      refine ⟨fun h => h1 fun j d hj => h (j + 1) d (by simpa using hj), fun j d hj hdt => ?_⟩
      cases j with
      | zero => simp at hj; subst hj; rw [hx] at hdt; cases hdt
      | succ j =>
        have := h2 j d (by simpa using hj) hdt
        rwa [show i + 1 + j = i + (j + 1) by omega] at this
    | some s =>
      simp only
      obtain ⟨h1, h2⟩ := look_dFinV V D (i + 1) (putE e s (V i)) t hd.2
      refine ⟨fun h => ?_, fun j d hj hdt => ?_⟩
      · rw [h1 fun j d hj => h (j + 1) d (by simpa using hj), look_putE, if_neg (fun e => h 0 x rfl (by rw [hx, e]))]
      · cases j with
        | zero =>
          simp at hj
          subst hj
          rw [hx] at hdt
          injection hdt with hdt
          subst hdt
          rw [h1 (fun j d hj hdt => ?_), look_putE, if_pos rfl, Nat.add_zero]
          have := dstsOk_spec (i := 0) (j := j + 1) (t := s) hd' (by simp [hx]) (by simp [hj, hdt])
          omega
        | succ j =>
          have := h2 j d (by simpa using hj) hdt
          rwa [show i + 1 + j = i + (j + 1) by omega] at this

theorem callE {e : Env} {i : Nat} {d : DI} {f : X} {args : List X} {Q : Go.Hl.D → St → Prop} (hop : d.op = .call f args) (hg : guardB e d.guard = some true)
    (hcall : HCallD M.P (evX σ e f) (args.map (evX σ e)) σ Q) :
    ∀ ops o, ops[i]? = some o → cmpOp M.P M.nt ops o ⟨d.dst, d.guard, d.op⟩ = true → isKill d.op = false → ∀ g w a, Rl M g w σ e a → ∀ (Q' : Exit → Act → World → Prop) (K : Act → World → Prop),
    (∀ g' w' v x σ', E g w g' w' → Rel M.P g' σ' w' → R g' w' x v → Q x σ' → K (a.put o.dst v) w') → wpOpIn M.F 0 M.P ops Q' i K a w := by
  intro ops o ho hc hk g w a hr Q' K hK
  obtain ⟨h1, h2, h3, h4⟩ := cmpOp_parts hc
  unfold wpOpIn
  simp only [ho]
  rw [if_pos (wanted_of hr.er h3 hg)]
  refine ⟨fun f _ => M.F_fn f, ?_⟩
  rw [Oper.semAt_eq _ _ _ (not_defer hc)]
  obtain ⟨dst', op, type, pos, after, guard⟩ := o
  simp only [hop] at h4 h1
  unfold cmpCall at h4
  split at h4; rotate_left; · cases h4
  rename_i c hop'
  split at h4; rotate_left; · cases h4
  rename_i f' hcal
  simp only at hop'
  subst hop'
  simp only [Bool.and_eq_true] at h4
  obtain ⟨h4, h5⟩ := h4
  obtain ⟨fn, cap, hv, hnext⟩ := hcall g w _ _ hr.rel (evX_R hr.rel hr.er h4) (evXs_RL hr.rel hr.er h5)
  have hrun : (execOp a.eval { dst := dst', op := .call c, type := type, pos := pos, after := after, guard := guard }).run M.P w = (invoke (.fn fn cap) (c.args.toList.map a.eval).toArray).run M.P w := by
    have e : #[] ++ Array.map a.eval c.args = (c.args.toList.map a.eval).toArray := by
      apply Array.ext'
      simp
    simp only [execOp, resolve, hcal, Deferred.ofValue, hv, Sem.run_bind, Sem.run_pure, Result.andThen_ok, e]
  rw [hrun]
  refine uponIn_of_next hnext ?_
  intro e w' he
  cases e <;> simp only [HRet] at he
  obtain ⟨x, g', σ', hE, hR, hd, hq⟩ := he
  exact ⟨_, rfl, hK g' w' _ x σ' hE hR hd hq⟩

def goV (P : Program) (e : Env) (d : DI) (σ : St) (F : Go.Hl.D → St → Prop) : Prop :=
  wantH (guardB e d.guard)
    (opH d.op (∃ f args Q, d.op = .call f args ∧ HCallD P (evX σ e f) (args.map (evX σ e)) σ Q ∧ ∀ x σ', Q x σ' → F x σ') (bindH (hstep σ (evX σ e) d.op) fun v σ' p => p ∧ F v σ'))
    (F .dead σ)

theorem goV_step {P : Program} {e : Env} {d : DI} {σ : St} {F : Go.Hl.D → St → Prop} (h : goV P e d σ F) : ∃ Next, StepV P e d σ Next ∧ ∀ x σ', Next x σ' → F x σ' := by
  unfold goV wantH at h
  split at h
  · rename_i hg
    unfold opH at h
    split at h
    · obtain ⟨f, args, Q, hop, hc, hn⟩ := h
      exact ⟨Q, .call hop hg hc, hn⟩
    · unfold bindH at h
      split at h; rotate_left; · exact h.elim
      rename_i v σ' p hs
      exact ⟨_, .op hg hs h.1, by rintro x σ1 ⟨rfl, rfl⟩; exact h.2⟩
  · rename_i hg
    exact ⟨_, .not hg, by rintro x σ1 ⟨rfl, rfl⟩; exact h⟩
  · exact h.elim

theorem hx_drawS (K : (Nat → Bool) → (Nat → Go.Hl.D) → St → Prop) (h0 : K (fun _ => false) (fun _ => .undef) σ)
    (hs : ∀ L V σ, K L V σ → allD 0 D fun i d => L i = false → (∀ j, d.anc.testBit j = true → L j = true) → goV M.P (useV M.nt env V d.uses) d σ fun x σ' => K (upd L i true) (upd V i x) σ')
    (hfin : ∀ L V σ', (∀ i, i < D.length → L i = true) → K L V σ' → HX M base kont (dFinV V 0 D (lowE M.nt env)) σ') : HX M base (.code (.draw D) :: kont) env σ := by
  intro c hc g w a hr
  obtain ⟨id, ops, rfl, hcd⟩ : ∃ id ops, c = .region id ops true ∧ cmpDraw M.P M.nt ops D = true := by
    cases c <;> first
      | (simp [cmpC] at hc; done)
      | skip
    rename_i id ops dr
    cases dr
    · cases hc
    · exact ⟨id, ops, rfl, hc⟩
  unfold cmpDraw at hcd
  simp only [Bool.and_eq_true] at hcd
  obtain ⟨⟨hmix, hcs⟩, hds⟩ := hcd
  obtain ⟨hlen, hcs⟩ := cmpDs_spec hcs
  have hsz : ops.size = D.length := by simpa using hlen
  have item : ∀ i, i < D.length → ∃ o d, ops[i]? = some o ∧ D[i]? = some d ∧ cmpD1 M.P M.nt ops D i o d = true := fun i hi => by
    refine ⟨ops[i], D[i], Array.getElem?_eq_getElem (by omega), List.getElem?_eq_getElem hi, ?_⟩
    have := hcs i ops[i] D[i] (by rw [Array.getElem?_toList, Array.getElem?_eq_getElem (by omega)]) (List.getElem?_eq_getElem hi)
    simpa using this
  have fin : ∀ (L : Nat → Bool) (V : Nat → Go.Hl.D) (σ : St) (listed : Array Bool) (g : G) (w : World) (a : Act), DSt M D env V listed g w σ a → K L V σ → (∀ i, i < D.length → L i = listed.getD i true) → (∀ i, i < D.length → listed.getD i true = true) → Out M (KP M base kont) .normal a w := by
    intro L V σ listed g w a hdr hK hL hall
    refine ⟨g, _, σ, hdr.rl.withEnv fun t => ?_, hfin L V σ (fun i hi => by rw [hL i hi, hall i hi]) hK⟩
    obtain ⟨h1, h2⟩ := look_dFinV V D 0 (lowE M.nt env) t hds
    by_cases hex : ∃ (j : Nat) (d : DI), D[j]? = some d ∧ d.dst = some t
    · obtain ⟨j, d, hj, hdt⟩ := hex
      rw [h2 j d hj hdt, Nat.zero_add]
      exact hdr.val j d t hj hdt (hall j (List.getElem?_eq_some_iff.1 hj).1)
    · rw [h1 (fun j d hj hdt => hex ⟨j, d, hj, hdt⟩), look_lowE]
      split
      · rename_i ht
        exact hdr.old t ht fun j d hj hdt => absurd ⟨j, d, hj, hdt⟩ hex
      · simp only [R]
  have main : ∀ (fuel : Nat) (L : Nat → Bool) (V : Nat → Go.Hl.D) (σ : St) (listed : Array Bool) (g : G) (w : World) (a : Act), DSt M D env V listed g w σ a → K L V σ → (∀ i, i < D.length → L i = listed.getD i true) →
      unl listed.toList ≤ fuel → wpAnyIn M.F 0 M.P .any ops (Out M (KP M base kont)) fuel listed a w := by
    intro fuel
    induction fuel with
    | zero =>
      intro L V σ listed g w a hdr hK hL hf
      have hall : ∀ i, i < D.length → listed.getD i true = true := fun i hi => by
        cases h : listed.getD i true
        · have := unl_pos (by rw [hdr.size]; exact hi) h
          omega
        · rfl
      refine ⟨?_, fin L V σ listed g w a hdr hK hL hall⟩
      cases hr : Region.ready .any ops listed with
      | nil => rfl
      | cons i r =>
        have : i ∈ Region.ready .any ops listed := by rw [hr]; simp
        rw [mem_ready] at this
        obtain ⟨h1, o, ho, _⟩ := this
        have hi : i < D.length := by rw [← hsz]; exact (Array.getElem?_eq_some_iff.1 ho).1
        rw [hall i hi] at h1
        cases h1
    | succ fuel ih =>
      intro L V σ listed g w a hdr hK hL hf
      refine ⟨fun hr => fin L V σ listed g w a hdr hK hL fun i => ?_, fun i hi => ?_⟩
      · induction i using Nat.strongRecOn with
        | _ i ihi =>
          intro hi
          cases h : listed.getD i true
          · exfalso
            obtain ⟨o, d, ho, hd, hc1⟩ := item i hi
            unfold cmpD1 at hc1
            simp only [Bool.and_eq_true] at hc1
            have hed := List.all_eq_true.1 hc1.1.1.1.2
            have : i ∈ Region.ready .any ops listed := by
              rw [mem_ready]
              refine ⟨h, o, ho, fun e he hb => ?_⟩
              have := hed e (by simpa using he)
              simp only [hb, Bool.not_true, Bool.false_or, decide_eq_true_eq] at this
              have hlt : e.on < D.length := by omega
              rw [← getD_tf (by rw [hdr.size]; exact hlt)]
              exact ihi e.on this hlt
            rw [hr] at this
            cases this
          · rfl
      · rw [mem_ready] at hi
        obtain ⟨hu, o, ho, hbef⟩ := hi
        have hil : i < D.length := by rw [← hsz]; exact (Array.getElem?_eq_some_iff.1 ho).1
        obtain ⟨o', d, ho', hd, hc1⟩ := item i hil
        rw [ho] at ho'
        injection ho' with ho'
        subst ho'
        unfold cmpD1 at hc1
        simp only [Bool.and_eq_true] at hc1
        obtain ⟨⟨⟨⟨⟨hop, hnk⟩, hed⟩, hanc⟩, huse⟩, hw⟩ := hc1
        have hnk' : isKill d.op = false := by simpa using hnk
        have hed := List.all_eq_true.1 hed
        have hanc : edgeBits (ancOf D) i o.after.toList = d.anc := by simpa using hanc
        have hpre : ∀ j, d.anc.testBit j = true → listed.getD j true = true ∧ j < D.length := fun j hj => by
          rw [← hanc] at hj
          obtain ⟨e, he, hb, hor⟩ := edgeBits_spec hj
          have hlt := hed e he
          simp only [hb, Bool.not_true, Bool.false_or, decide_eq_true_eq] at hlt
          have hlt' : e.on < D.length := by omega
          have hle := hbef e (by simpa using he) hb
          rw [← getD_tf (by rw [hdr.size]; exact hlt')] at hle
          rcases hor with rfl | h
          · exact ⟨hle, hlt'⟩
          · exact hdr.clos e.on j hlt' hle h
        have hER := hdr.uses_ER hd hu hpre huse
        have hrl : Rl M g w σ (useV M.nt env V d.uses) a := hdr.rl.withEnv hER
        obtain ⟨p1, p2, p3, p4⟩ := cmpOp_parts hop
        have hfuel : unl (listed.setIfInBounds i true).toList ≤ fuel := by
          have := unl_set (by rw [hdr.size]; exact hil) hu
          omega
        have hst := allD_spec (hs L V σ hK) i d hd
        rw [Nat.zero_add] at hst
        obtain ⟨Next, hstep', hnext⟩ := goV_step (hst (by rw [hL i hil, hu]) (fun j hj => by rw [hL j (hpre j hj).2, (hpre j hj).1]))
        have hL' : ∀ j, j < D.length → upd L i true j = (listed.setIfInBounds i true).getD j true := fun j hj => by
          by_cases e : j = i
          · subst e
            simp only [upd, if_true]
            exact (getD_set_self true (by rw [hdr.size]; exact hil)).symm
          · simp only [upd, if_neg e]
            rw [hL j hj, getD_set_ne true (Ne.symm e)]
        have hgo : ∀ g' w' v x σ', E g w g' w' → Rel M.P g' σ' w' → R g' w' x v → Next x σ' → wpAnyIn M.F 0 M.P .any ops (Out M (KP M base kont)) fuel (listed.setIfInBounds i true) (a.put o.dst v) w' := fun g' w' v x σ' hE hR hv hn =>
          ih (upd L i true) (upd V i x) σ' _ g' w' _ (hdr.next hd p1 p2 hds hu hpre hE hR hv) (hnext x σ' hn) hL' hfuel
        cases hstep' with
        | op hg hv hp =>
          have p4' : (cmpHV M.P o d.op || cmpHS M.P o d.op) = true := by
            have hnc : ∀ f args, d.op ≠ .call f args := fun f args e => by rw [e] at hv; simp [hstep, Go.Hl.hval] at hv
            simp only at p4
            exact p4
          unfold wpOpIn
          simp only [ho]
          rw [if_pos (wanted_of hER p3 hg)]
          obtain ⟨u, w', g', hrun, hE, hR, hd'⟩ := hstep_run hrl.rel hrl.er p4' hv hp
          exact wpIn_value (not_defer hop) hrun (hgo g' w' u _ _ hE hR hd' ⟨rfl, rfl⟩)
        | not hg =>
          unfold wpOpIn
          simp only [ho]
          rw [if_neg (by rw [wanted_of hER p3 hg]; decide)]
          exact ⟨fun f _ => M.F_fn f, hgo g w Go.undef .dead σ (E.refl g w hdr.rl.rel.gw) hdr.rl.rel (by simp only [R]) ⟨rfl, rfl⟩⟩
        | call hopc hg hcall =>
          exact callE hopc hg hcall ops o ho hop hnk' g w a hrl _ _ (fun g' w' v x σ' hE hR hv hn => hgo g' w' v x σ' hE hR hv hn)
  refine wpIn_region_any hmix (main ops.size _ _ σ _ g _ a ?_ h0 (fun i hi => ?_) ?_)
  · have hE : E g w g { w with drawn := w.drawn + 1 } := E.of_heap hr.rel.gw (Nat.le_refl _) (fun _ _ => rfl)
    have hR : Rel M.P g σ { w with drawn := w.drawn + 1 } := hr.rel.of_heap (Nat.le_refl _) (fun _ _ => rfl)
    have hr2 := hr.goes hE hR
    have hf : ∀ i, i < D.length → (Array.replicate ops.size false).getD i true = false := fun i hi => by simp [hsz, hi]
    refine ⟨hr2.withEnv (fun t => by simp only [look, R]), by simp [hsz], fun t ht _ => hr2.er t, fun j d t hj _ hl => ?_, fun i j hi hl _ => ?_⟩
    · rw [hf j (List.getElem?_eq_some_iff.1 hj).1] at hl; cases hl
    · rw [hf i hi] at hl; cases hl
  · simp [hsz, hi]
  · unfold unl
    rw [Array.toList_replicate, List.count_replicate]
    simp

end

theorem upd_e {α : Type} (V : Nat → α) (i : Nat) (x : α) (j : Nat) : upd V i x j = if j = i then x else V j := id rfl
theorem useV_nil {nt : Nat} {env : Env} {V : Nat → D} : useV nt env V [] = [] := id rfl
theorem useV_cons {nt : Nat} {env : Env} {V : Nat → D} {u : Nat × Nat} {us : List (Nat × Nat)} : useV nt env V (u :: us) = (u.1, if u.2 < nt then look env u.2 else V (u.2 - nt)) :: useV nt env V us := id rfl
theorem goV_e {P : Program} {e : Env} {d : DI} {σ : St} {F : D → St → Prop} : goV P e d σ F = wantH (guardB e d.guard)
    (opH d.op (∃ f args Q, d.op = .call f args ∧ HCallD P (evX σ e f) (args.map (evX σ e)) σ Q ∧ ∀ x σ', Q x σ' → F x σ') (bindH (hstep σ (evX σ e) d.op) fun v σ' p => p ∧ F v σ'))
    (F .dead σ) := id rfl
theorem allD_nil {i : Nat} {F : Nat → DI → Prop} : allD i [] F = True := id rfl
theorem allD_cons {i : Nat} {d : DI} {D : List DI} {F : Nat → DI → Prop} : allD i (d :: D) F = (F i d ∧ allD (i + 1) D F) := id rfl
theorem dFinV_nil {V : Nat → D} {i : Nat} {e : Env} : dFinV V i [] e = e := id rfl
theorem dFinV_some {V : Nat → D} {i t : Nat} {g : Option (Nat × Bool)} {op : HO} {us : List (Nat × Nat)} {ef : Bool} {lo hi an : Nat} {D : List DI} {e : Env} : dFinV V i (⟨some t, g, op, us, ef, lo, hi, an⟩ :: D) e = dFinV V (i + 1) D (putE e t (V i)) := id rfl
theorem dFinV_none {V : Nat → D} {i : Nat} {g : Option (Nat × Bool)} {op : HO} {us : List (Nat × Nat)} {ef : Bool} {lo hi an : Nat} {D : List DI} {e : Env} : dFinV V i (⟨none, g, op, us, ef, lo, hi, an⟩ :: D) e = dFinV V (i + 1) D e := id rfl

theorem Ext.trans {a b c : St} (h : Ext a b) (k : Ext b c) : Ext a c :=
  ⟨Nat.le_trans h.next k.next, fun id hl => by rw [k.obj id (Nat.lt_of_lt_of_le hl h.next), h.obj id hl], by rw [k.glob, h.glob]⟩

def allW (env : Env) : Env → Prop
  | [] => True
  | (t, d) :: r => (∀ (g : G) (w : World) (v : Value), R g w (look env t) v → R g w d v) ∧ allW env r

theorem allW.look {env : Env} : ∀ {env' : Env}, allW env env' → ∀ (g : G) (w : World) (t : Nat) (v : Value), R g w (look env t) v → R g w (look env' t) v
  | [], _, g, w, t, v, _ => by simp only [Go.Hl.look, R]
  | (s, d) :: r, h, g, w, t, v, hr => by
    simp only [Go.Hl.look]
    split
    · rename_i e
      subst e
      exact h.1 g w v hr
    · exact allW.look h.2 g w t v hr

end Go.Hl
