/-
  The rules of a region that draws its order.
-/
import Derived.Test.YtijcddlahidhhaaDoorHlM
import Derived.Below
set_option linter.unusedSectionVars false
set_option linter.unusedVariables false
namespace Go.Hl
open Go

theorem count_set_false : ∀ (l : List Bool) (i : Nat), l[i]? = some false → (l.set i true).count false + 1 = l.count false
  | [], i, h => by simp at h
  | b :: l, 0, h => by
    simp at h
    subst h
    simp
  | b :: l, i + 1, h => by
    have := count_set_false l i (by simpa using h)
    simp only [List.set_cons_succ, List.count_cons]
    omega

theorem unl_set {listed : Array Bool} {i : Nat} (hi : i < listed.size) (h : listed.getD i true = false) : unl (listed.setIfInBounds i true).toList + 1 = unl listed.toList := by
  unfold unl
  rw [Array.toList_setIfInBounds]
  refine count_set_false _ i ?_
  rw [Array.getElem?_toList, Array.getElem?_eq_getElem hi]
  rw [Array.getD_eq_getD_getElem?, Array.getElem?_eq_getElem hi] at h
  simpa using h

theorem unl_pos {listed : Array Bool} {i : Nat} (hi : i < listed.size) (h : listed.getD i true = false) : 0 < unl listed.toList := by
  have := unl_set hi h
  omega

theorem getD_set_self {listed : Array Bool} {i : Nat} (d : Bool) (hi : i < listed.size) : (listed.setIfInBounds i true).getD i d = true := by
  simp [hi]

theorem getD_tf {listed : Array Bool} {i : Nat} (hi : i < listed.size) : listed.getD i true = listed.getD i false := by
  simp [hi]

def EffStep (M : Md) (i : Nat) (d : DI) (env : Env) (σ : St) (Next : D → St → Prop) : Prop :=
  ∀ ops o, ops[i]? = some o → cmpOp M.P M.nt ops o ⟨d.dst, d.guard, d.op⟩ = true → isKill d.op = false → ∀ g w a, Rl M g w σ (envI env d.uses) a → ∀ (Q : Exit → Act → World → Prop) (K : Act → World → Prop),
    (∀ g' w' v x σ', E g w g' w' → Rel M.P g' σ' w' → R g' w' x v → Next x σ' → K (a.put o.dst v) w') → wpOpIn M.F 0 M.P ops Q i K a w

section
variable {M : Md} {base : HPost} {kont : List It} {D : List DI} {k : Nat} {env : Env} {σ : St}

theorem eff_op {i : Nat} {d : DI} {v : Go.Hl.D} {σ' : St} {p : Prop} (hg : guardB (envI env d.uses) d.guard = some true) (hs : hstep σ (evX σ (envI env d.uses)) d.op = some (v, σ', p)) (hp : p) :
    EffStep M i d env σ fun x s => x = v ∧ s = σ' := by
  intro ops o ho hc hk g w a hr Q K hK
  obtain ⟨h1, h2, h3, h4⟩ := cmpOp_parts hc
  have hnc : ∀ f args, d.op ≠ .call f args := fun f args e => by rw [e] at hs; simp [hstep, hval] at hs
  have h4' : (cmpHV M.P o d.op || cmpHS M.P o d.op) = true := by
    simp only at h4
    exact h4
  unfold wpOpIn
  simp only [ho]
  rw [if_pos (wanted_of hr.er h3 hg)]
  obtain ⟨u, w', g', hrun, hE, hR, hd⟩ := hstep_run hr.rel hr.er h4' hs hp
  exact wpIn_value (not_defer hc) hrun (hK g' w' u v σ' hE hR hd ⟨rfl, rfl⟩)

theorem eff_not {i : Nat} {d : DI} (hg : guardB (envI env d.uses) d.guard = some false) : EffStep M i d env σ fun x s => x = .dead ∧ s = σ := by
  intro ops o ho hc hk g w a hr Q K hK
  obtain ⟨h1, h2, h3, h4⟩ := cmpOp_parts hc
  unfold wpOpIn
  simp only [ho]
  rw [if_neg (by rw [wanted_of hr.er h3 hg]; decide)]
  exact ⟨fun f _ => M.F_fn f, hK g w Go.undef .dead σ (E.refl g w hr.rel.gw) hr.rel (by simp only [R]) ⟨rfl, rfl⟩⟩

theorem eff_call {i : Nat} {d : DI} {f : X} {args : List X} {Q : Go.Hl.D → St → Prop} (hop : d.op = .call f args) (hg : guardB (envI env d.uses) d.guard = some true)
    (hcall : HCallD M.P (evX σ (envI env d.uses) f) (args.map (evX σ (envI env d.uses))) σ Q) : EffStep M i d env σ Q := by
  intro ops o ho hc hk g w a hr Q' K hK
  obtain ⟨h1, h2, h3, h4⟩ := cmpOp_parts hc
  unfold wpOpIn
  simp only [ho]
  rw [if_pos (wanted_of hr.er h3 hg)]
  refine ⟨fun f _ => M.F_fn f, ?_⟩
  rw [Oper.semAt_eq _ _ _ (not_defer hc)]
  obtain ⟨dst', op, type, pos, after, guard⟩ := o
  simp only [hop] at h4 h1
  unfold cmpCall at h4
  split at h4; rotate_left; · cases h4
  rename_i c hop'
  split at h4; rotate_left; · cases h4
  rename_i f' hcal
  simp only at hop'
  subst hop'
  simp only [Bool.and_eq_true] at h4
  obtain ⟨h4, h5⟩ := h4
  obtain ⟨fn, cap, hv, hnext⟩ := hcall g w _ _ hr.rel (evX_R hr.rel hr.er h4) (evXs_RL hr.rel hr.er h5)
  have hrun : (execOp a.eval { dst := dst', op := .call c, type := type, pos := pos, after := after, guard := guard }).run M.P w = (invoke (.fn fn cap) (c.args.toList.map a.eval).toArray).run M.P w := by
    have e : #[] ++ Array.map a.eval c.args = (c.args.toList.map a.eval).toArray := by
      apply Array.ext'
      simp
    simp only [execOp, resolve, hcal, Deferred.ofValue, hv, Sem.run_bind, Sem.run_pure, Result.andThen_ok, e]
  rw [hrun]
  refine uponIn_of_next hnext ?_
  intro e w' he
  cases e <;> simp only [HRet] at he
  obtain ⟨x, g', σ', hE, hR, hd, hq⟩ := he
  exact ⟨_, rfl, hK g' w' _ x σ' hE hR hd hq⟩

theorem DR.uses_ER {ops : Array Oper} {b : Nat} {listed : Array Bool} {g : G} {w : World} {a : Act} (hdr : DR M D k b env listed g w σ a) {i : Nat} {o : Oper} {d : DI} (hd : D[i]? = some d)
    (hu : listed.getD i true = false) (hpre : ∀ j, d.anc.testBit j = true → listed.getD j true = true ∧ j < D.length) (huse : (d.uses.all (useOk M.nt D i d.anc)) = true) : ER g w (envI env d.uses) a.tmps := fun t => by
  rcases look_envI (env := env) (uses := d.uses) (t := t) with e | ⟨s, hs, e⟩
  · rw [e]; simp only [R]
  · rw [e]
    have hi := (List.getElem?_eq_some_iff.1 hd).1
    have := List.all_eq_true.1 huse _ hs
    simp only [useOk] at this
    split at this
    · rename_i hlt
      simp only [Bool.and_eq_true, beq_iff_eq] at this
      obtain ⟨rfl, hl⟩ := this
      refine hdr.old t hlt fun j d' hj hdt => ?_
      rcases laterAll_spec hl hj hdt with e | e
      · simp only [Nat.zero_add] at e
        subst e
        exact hu
      · cases hlj : listed.getD j true
        · rfl
        · have hjl := (List.getElem?_eq_some_iff.1 hj).1
          have := (hdr.clos j i hjl hlj (by simp [ancOf, hj, e])).1
          rw [hu] at this
          cases this
    · rename_i hge
      simp only [Bool.and_eq_true, beq_iff_eq] at this
      obtain ⟨h1, h2⟩ := this
      cases hj : D[s - M.nt]? with
      | none => simp [hj] at h1
      | some d' =>
        simp only [hj, Option.map_some, Option.some.injEq] at h1
        have := hdr.val (s - M.nt) d' t hj h1 (hpre _ h2).1
        rwa [show M.nt + (s - M.nt) = s by omega] at this

theorem DR.next {b k' b' : Nat} {listed : Array Bool} {g g' : G} {w w' : World} {a : Act} {σ' : St} {env' : Env} {i : Nat} {d : DI} {o : Oper} {v : Value} (hdr : DR M D k b env listed g w σ a) (hd : D[i]? = some d) (hdo : o.dst = d.dst)
    (hlt : (match d.dst with | some t => decide (t < M.nt) | none => true) = true) (hds : dstsOk (D.map (·.dst)) = true)
    (hu : listed.getD i true = false) (hpre : ∀ j, d.anc.testBit j = true → listed.getD j true = true ∧ j < D.length)
    (hE : E g w g' w') (hR : Rel M.P g' σ' w') (hv : R g' w' (look env' (M.nt + i)) v)
    (hlow : ∀ t, t < M.nt → look env' t = look env t) (hval : ∀ (j : Nat) dj, D[j]? = some dj → listed.getD j true = true → look env' (M.nt + j) = look env (M.nt + j))
    (heff : ∀ (m j : Nat), (effsFrom 0 D)[m]? = some j → ((listed.setIfInBounds i true).getD j true = true ↔ m < k'))
    (hbnd : ∀ (j : Nat) dj, D[j]? = some dj → dj.eff = false → (listed.setIfInBounds i true).getD j true = true → dj.lo < b') (hle : k' ≤ (effsFrom 0 D).length) :
    DR M D k' b' env' (listed.setIfInBounds i true) g' w' σ' (a.put o.dst v) := by
  have hi := (List.getElem?_eq_some_iff.1 hd).1
  have his : i < listed.size := by rw [hdr.size]; exact hi
  have hlist : ∀ j, j ≠ i → (listed.setIfInBounds i true).getD j true = listed.getD j true := fun j hj => getD_set_ne true (Ne.symm hj)
  have hself : (listed.setIfInBounds i true).getD i true = true := getD_set_self true his
  have hput : ∀ t, t < M.nt → (a.put o.dst v).tmps.getD t Go.undef = if d.dst = some t then v else a.tmps.getD t Go.undef := by
    intro t ht
    rw [hdo]
    cases hdd : d.dst with
    | none => simp [Act.put]
    | some s =>
      simp only [Act.put, Option.some.injEq]
      split
      · rename_i e
        subst e
        rw [Array.getD_eq_getD_getElem?, Array.getElem?_setIfInBounds_self_of_lt (by rw [hdr.rl.nt]; exact ht)]
        rfl
      · rename_i e
        rw [Array.getD_eq_getD_getElem?, Array.getElem?_setIfInBounds_ne (fun h => e h), ← Array.getD_eq_getD_getElem?]
  refine ⟨?_, by simp [hdr.size], fun t ht hall => ?_, fun j dj t hj hdj hl => ?_, fun j1 j2 hj1 hl hb => ?_, heff, hbnd, hle⟩
  · have hlt' : (match o.dst with | some t => decide (t < M.nt) | none => true) = true := by rw [hdo]; exact hlt
    have := hdr.rl.put (dst := o.dst) (d := .undef) hE hR (v := v) (by simp only [R]) hlt'
    refine ⟨this.gs, this.e, this.rel, fun t => by simp only [look, R], this.nt, this.defs, this.rnd⟩
  · have hne : ¬ d.dst = some t := fun e => by
      have := hall i d hd e
      rw [hself] at this
      cases this
    rw [hput t ht, if_neg hne, hlow t ht]
    refine R.mono hE hdr.rl.rel.gw _ _ (hdr.old t ht fun j d' hj hdj => ?_)
    have := hall j d' hj hdj
    rwa [hlist j (fun e => by subst e; rw [hd] at hj; injection hj with hj; subst hj; exact hne hdj)] at this
  · by_cases e : j = i
    · subst e
      rw [hd] at hj
      injection hj with hj
      subst hj
      have htlt : t < M.nt := by rw [hdj] at hlt; simpa using hlt
      rw [hput t htlt, if_pos hdj]
      exact hv
    · rw [hlist j e] at hl
      have hne : ¬ d.dst = some t := fun h => e (dstsOk_spec (t := t) hds (by simp [hj, hdj]) (by simp [hd, h]))
      have hR0 := hdr.val j dj t hj hdj hl
      rw [hval j dj hj hl]
      have : (a.put o.dst v).tmps.getD t Go.undef = a.tmps.getD t Go.undef := by
        rw [hdo]
        cases hdd : d.dst with
        | none => simp [Act.put]
        | some s =>
          simp only [Act.put]
          rw [Array.getD_eq_getD_getElem?, Array.getElem?_setIfInBounds_ne (fun h => hne (by rw [hdd, h])), ← Array.getD_eq_getD_getElem?]
      rw [this]
      exact R.mono hE hdr.rl.rel.gw _ _ hR0
  · by_cases e : j1 = i
    · subst e
      have hb' : d.anc.testBit j2 = true := by simpa [ancOf, hd] using hb
      obtain ⟨h1, h2⟩ := hpre j2 hb'
      refine ⟨?_, h2⟩
      by_cases e2 : j2 = j1
      · subst e2; exact hself
      · rw [hlist j2 e2]; exact h1
    · rw [hlist j1 e] at hl
      obtain ⟨h1, h2⟩ := hdr.clos j1 j2 hj1 hl hb
      refine ⟨?_, h2⟩
      by_cases e2 : j2 = i
      · subst e2; exact hself
      · rw [hlist j2 e2]; exact h1

theorem hd_main (hok : dOk M.nt σ k env 0 D)
    (heff : k < (effsFrom 0 D).length → ∃ i d Next, (effsFrom 0 D)[k]? = some i ∧ D[i]? = some d ∧ EffStep M i d env σ Next ∧ ∀ x σ', Next x σ' → HDp M base kont D (k + 1) (putE env (M.nt + i) x) σ')
    (hfin : k = (effsFrom 0 D).length → HX M base kont (dFin M.nt env 0 D (lowE M.nt env)) σ) : HD M base kont D k env σ := by
  intro hch ops hc
  have hc0 := hc
  unfold cmpDraw at hc
  simp only [Bool.and_eq_true] at hc
  obtain ⟨⟨hmix, hcs⟩, hds⟩ := hc
  obtain ⟨hlen, hcs⟩ := cmpDs_spec hcs
  have hsz : ops.size = D.length := by simpa using hlen
  have item : ∀ i, i < D.length → ∃ o d, ops[i]? = some o ∧ D[i]? = some d ∧ cmpD1 M.P M.nt ops D i o d = true := fun i hi => by
    refine ⟨ops[i], D[i], Array.getElem?_eq_getElem (by omega), List.getElem?_eq_getElem hi, ?_⟩
    have := hcs i ops[i] D[i] (by rw [Array.getElem?_toList, Array.getElem?_eq_getElem (by omega)]) (List.getElem?_eq_getElem hi)
    simpa using this
  -- where all is done
  have fin : ∀ (listed : Array Bool) (g : G) (w : World) (a : Act), DR M D k (k + 1) env listed g w σ a → (∀ i, i < D.length → listed.getD i true = true) → Out M (KP M base kont) .normal a w := by
    intro listed g w a hdr hall
    have hk : k = (effsFrom 0 D).length := by
      rcases Nat.lt_or_ge k (effsFrom 0 D).length with h | h
      · have he := List.getElem?_eq_getElem h
        obtain ⟨_, d, hd, _⟩ := effsFrom_mem he
        have hl := (List.getElem?_eq_some_iff.1 hd).1
        have := (hdr.eff k _ he).1 (hall _ (by simpa using hl))
        omega
      · have := hdr.le
        omega
    refine ⟨g, _, σ, hdr.rl.withEnv fun t => ?_, hfin hk⟩
    obtain ⟨h1, h2⟩ := look_dFin M.nt env D 0 (lowE M.nt env) t hds
    by_cases hex : ∃ (j : Nat) (d : DI), D[j]? = some d ∧ d.dst = some t
    · obtain ⟨j, d, hj, hdt⟩ := hex
      rw [h2 j d hj hdt, Nat.zero_add]
      exact hdr.val j d t hj hdt (hall j (List.getElem?_eq_some_iff.1 hj).1)
    · rw [h1 (fun j d hj hdt => hex ⟨j, d, hj, hdt⟩), look_lowE]
      split
      · rename_i ht
        exact hdr.old t ht fun j d hj hdt => absurd ⟨j, d, hj, hdt⟩ hex
      · simp only [R]
  intro fuel
  induction fuel with
  | zero =>
    intro listed g w a hdr hf
    have hall : ∀ i, i < D.length → listed.getD i true = true := fun i hi => by
      cases h : listed.getD i true
      · have := unl_pos (by rw [hdr.size]; exact hi) h
        omega
      · rfl
    refine ⟨?_, fin listed g w a hdr hall⟩
    cases hr : Region.ready .any ops listed with
    | nil => rfl
    | cons i r =>
      have : i ∈ Region.ready .any ops listed := by rw [hr]; simp
      rw [mem_ready] at this
      obtain ⟨h1, o, ho, _⟩ := this
      have hi : i < D.length := by rw [← hsz]; exact (Array.getElem?_eq_some_iff.1 ho).1
      rw [hall i hi] at h1
      cases h1
  | succ fuel ih =>
    intro listed g w a hdr hf
    refine ⟨fun hr => fin listed g w a hdr fun i => ?_, fun i hi => ?_⟩
    · -- the least one that is not done is ready
      induction i using Nat.strongRecOn with
      | _ i ihi =>
        intro hi
        cases h : listed.getD i true
        · exfalso
          obtain ⟨o, d, ho, hd, hc1⟩ := item i hi
          unfold cmpD1 at hc1
          simp only [Bool.and_eq_true] at hc1
          have hed := List.all_eq_true.1 hc1.1.1.1.2
          have : i ∈ Region.ready .any ops listed := by
            rw [mem_ready]
            refine ⟨h, o, ho, fun e he hb => ?_⟩
            have := hed e (by simpa using he)
            simp only [hb, Bool.not_true, Bool.false_or, decide_eq_true_eq] at this
            have hlt : e.on < D.length := by omega
            rw [← getD_tf (by rw [hdr.size]; exact hlt)]
            exact ihi e.on this hlt
          rw [hr] at this
          cases this
        · rfl
    · rw [mem_ready] at hi
      obtain ⟨hu, o, ho, hbef⟩ := hi
      have hil : i < D.length := by rw [← hsz]; exact (Array.getElem?_eq_some_iff.1 ho).1
      obtain ⟨o', d, ho', hd, hc1⟩ := item i hil
      rw [ho] at ho'
      injection ho' with ho'
      subst ho'
      unfold cmpD1 at hc1
      simp only [Bool.and_eq_true] at hc1
      obtain ⟨⟨⟨⟨⟨hop, hnk⟩, hed⟩, hanc⟩, huse⟩, hw⟩ := hc1
      have hnk' : isKill d.op = false := by simpa using hnk
      have hed := List.all_eq_true.1 hed
      have hanc : edgeBits (ancOf D) i o.after.toList = d.anc := by simpa using hanc
      have hpre : ∀ j, d.anc.testBit j = true → listed.getD j true = true ∧ j < D.length := fun j hj => by
        rw [← hanc] at hj
        obtain ⟨e, he, hb, hor⟩ := edgeBits_spec hj
        have hlt := hed e he
        simp only [hb, Bool.not_true, Bool.false_or, decide_eq_true_eq] at hlt
        have hlt' : e.on < D.length := by omega
        have hle := hbef e (by simpa using he) hb
        rw [← getD_tf (by rw [hdr.size]; exact hlt')] at hle
        rcases hor with rfl | h
        · exact ⟨hle, hlt'⟩
        · exact hdr.clos e.on j hlt' hle h
      have hER := hdr.uses_ER (ops := ops) (o := o) hd hu hpre huse
      have hrl : Rl M g w σ (envI env d.uses) a := hdr.rl.withEnv hER
      obtain ⟨p1, p2, p3, p4⟩ := cmpOp_parts hop
      have hfuel : unl (listed.setIfInBounds i true).toList ≤ fuel := by
        have := unl_set (by rw [hdr.size]; exact hil) hu
        omega
      have hlist : ∀ j, j ≠ i → (listed.setIfInBounds i true).getD j true = listed.getD j true := fun j hj => getD_set_ne true (Ne.symm hj)
      have hself : (listed.setIfInBounds i true).getD i true = true := getD_set_self true (by rw [hdr.size]; exact hil)
      cases he : d.eff with
      | true =>
        obtain ⟨m, hm⟩ := mem_effsFrom (i := 0) hd he
        rw [Nat.zero_add] at hm
        have hmk : m = k := by
          have h1 : ¬ m < k := fun h => by
            have := (hdr.eff m i hm).2 h
            rw [hu] at this
            cases this
          rcases Nat.lt_or_ge k m with h | h
          · exfalso
            obtain ⟨m', rfl⟩ : ∃ m', m = m' + 1 := ⟨m - 1, by omega⟩
            have hml : m' < (effsFrom 0 D).length := by
              have := (List.getElem?_eq_some_iff.1 hm).1
              omega
            have ha := List.getElem?_eq_getElem hml
            have hb := chained_spec hch ha hm
            have hb' : d.anc.testBit (effsFrom 0 D)[m'] = true := by simpa [ancOf, hd] using hb
            have := (hdr.eff m' _ ha).1 (hpre _ hb').1
            omega
          · omega
        subst hmk
        obtain ⟨i', d', Next, hi', hd', hstep, hnext⟩ := heff (List.getElem?_eq_some_iff.1 hm).1
        rw [hm] at hi'
        injection hi' with hi'
        subst hi'
        rw [hd] at hd'
        injection hd' with hd'
        subst hd'
        refine hstep ops o ho hop hnk' g w a hrl _ _ ?_
        intro g' w' v x σ' hE hR hx hnx
        refine hnext x σ' hnx hch ops hc0 fuel _ g' w' _ ?_ hfuel
        refine hdr.next hd p1 p2 hds hu hpre hE hR (by rw [look_putE, if_pos rfl]; exact hx) (fun t ht => by rw [look_putE, if_neg (by omega)]) (fun j dj hj hl => ?_) (fun m2 j hj => ?_) (fun j dj hj hje hl => ?_) (List.getElem?_eq_some_iff.1 hm).1
        · rw [look_putE, if_neg (fun e => ?_)]
          have : j = i := by omega
          subst this
          rw [hu] at hl
          cases hl
        · by_cases e : j = i
          · subst e
            have := effs_inj hj hm
            subst this
            simp only [hself, true_iff]
            omega
          · rw [hlist j e, hdr.eff m2 j hj]
            have : m2 ≠ m := fun h => by subst h; rw [hm] at hj; injection hj with hj; exact e hj.symm
            omega
        · by_cases e : j = i
          · subst e; rw [hd] at hj; injection hj with hj; subst hj; rw [he] at hje; cases hje
          · rw [hlist j e] at hl
            exact hdr.bnd j dj hj hje hl
      | false =>
        have hw' : loOk d.anc d.lo (effsFrom 0 D) = true ∧ hiOk D i d.hi (effsFrom 0 D) = true := by
          simp only [he, Bool.false_or, Bool.and_eq_true] at hw
          exact hw
        have hlo : d.lo ≤ k := by
          rcases Nat.lt_or_ge k d.lo with h | h
          · obtain ⟨e, h1, h2⟩ := loOk_spec hw'.1 k h
            have := (hdr.eff k e h1).1 (hpre e h2).1
            omega
          · exact h
        have hhi : k ≤ d.hi := by
          rcases Nat.lt_or_ge d.hi k with h | h
          · exfalso
            have hl : d.hi < (effsFrom 0 D).length := by have := hdr.le; omega
            have ha := List.getElem?_eq_getElem hl
            have hb := hiOk_spec hw'.2 d.hi _ (Nat.le_refl _) ha
            have hle := (hdr.eff d.hi _ ha).2 h
            obtain ⟨_, dd, hdd, _⟩ := effsFrom_mem ha
            have := (hdr.clos _ i (by simpa using (List.getElem?_eq_some_iff.1 hdd).1) hle hb).1
            rw [hu] at this
            cases this
          · exact h
        have hone := dOk_spec hok hd he hlo hhi
        rw [Nat.zero_add] at hone
        have hnxg : ∀ g' w' v, E g w g' w' → Rel M.P g' σ w' → R g' w' (look env (M.nt + i)) v → wpAnyIn M.F 0 M.P .any ops (Out M (KP M base kont)) fuel (listed.setIfInBounds i true) (a.put o.dst v) w' := by
          intro g' w' v hE hR hv
          refine ih _ g' w' _ ?_ hfuel
          refine hdr.next hd p1 p2 hds hu hpre hE hR hv (fun _ _ => rfl) (fun _ _ _ _ => rfl) (fun m2 j hj => ?_) (fun j dj hj hje hl => ?_) hdr.le
          · have : j ≠ i := fun e => by
              subst e
              obtain ⟨_, dd, h1, h2⟩ := effsFrom_mem hj
              rw [Nat.sub_zero, hd] at h1
              injection h1 with h1
              subst h1
              rw [he] at h2
              cases h2
            rw [hlist j this]
            exact hdr.eff m2 j hj
          · by_cases e : j = i
            · subst e; rw [hd] at hj; injection hj with hj; subst hj; omega
            · rw [hlist j e] at hl
              exact hdr.bnd j dj hj hje hl
        unfold dOne at hone
        unfold wpOpIn
        simp only [ho]
        split at hone
        · rename_i hg
          rw [if_pos (wanted_of hER p3 hg)]
          split at hone
          · rename_i v σ1 p hv
            obtain ⟨hp, rfl, hlk⟩ := hone
            have hnc : ∀ f args, d.op ≠ .call f args := fun f args e => by rw [e] at hv; simp [hstep, Go.Hl.hval] at hv
            have p4' : (cmpHV M.P o d.op || cmpHS M.P o d.op) = true := by
              simp only at p4
              exact p4
            obtain ⟨u, w', g', hrun, hE, hR, hRu⟩ := hstep_run hdr.rl.rel hER p4' hv hp
            exact wpIn_value (not_defer hop) hrun (hnxg g' w' u hE hR (by rw [hlk]; exact hRu))
          · exact hone.elim
        · rename_i hg
          rw [if_neg (by rw [wanted_of hER p3 hg]; decide)]
          exact ⟨fun f _ => M.F_fn f, hnxg g w Go.undef (E.refl g w hdr.rl.rel.gw) hdr.rl.rel (by rw [hone]; simp only [R])⟩
        · exact hone.elim

theorem dRun_spec {nt k : Nat} {σ : St} : ∀ {D : List DI} {i : Nat} {env env' : Env}, dRun nt σ k i D env = some env' →
    (∀ t, t < nt → look env' t = look env t) ∧ (∀ t, t < nt + i → look env' t = look env t) ∧ ∀ (j : Nat) d, D[j]? = some d → (d.eff = true ∨ d.lo ≠ k) → look env' (nt + (i + j)) = look env (nt + (i + j))
  | [], i, env, env', h => by
    simp only [dRun, Option.some.injEq] at h
    subst h
    exact ⟨fun _ _ => rfl, fun _ _ => rfl, fun j d h => by simp at h⟩
  | x :: D, i, env, env', h => by
    have key : ∀ v, dRun nt σ k (i + 1) D (putE env (nt + i) v) = some env' → x.eff = false ∧ x.lo = k →
        (∀ t, t < nt → look env' t = look env t) ∧ (∀ t, t < nt + i → look env' t = look env t) ∧ ∀ (j : Nat) d, (x :: D)[j]? = some d → (d.eff = true ∨ d.lo ≠ k) → look env' (nt + (i + j)) = look env (nt + (i + j)) := by
      intro v h hx
      obtain ⟨h1, h2, h3⟩ := dRun_spec h
      refine ⟨fun t ht => by rw [h1 t ht, look_putE, if_neg (by omega)], fun t ht => by rw [h2 t (by omega), look_putE, if_neg (by omega)], fun j d hj hor => ?_⟩
      cases j with
      | zero =>
        simp at hj
        subst hj
        rcases hor with e | e
        · rw [hx.1] at e; cases e
        · exact absurd hx.2 e
      | succ j =>
        have := h3 j d (by simpa using hj) hor
        rw [show i + 1 + j = i + (j + 1) by omega] at this
        rw [this, look_putE, if_neg (by omega)]
    simp only [dRun] at h
    split at h
    · rename_i hx
      split at h
      · split at h
        · exact key _ h hx
        · cases h
      · exact key _ h hx
      · cases h
    · rename_i hx
      obtain ⟨h1, h2, h3⟩ := dRun_spec h
      refine ⟨h1, fun t ht => h2 t (by omega), fun j d hj hor => ?_⟩
      cases j with
      | zero => exact h2 _ (by omega)
      | succ j =>
        have := h3 j d (by simpa using hj) hor
        rwa [show i + 1 + j = i + (j + 1) by omega] at this

theorem hdp_run {env' : Env} (hr : dRun M.nt σ k 0 D env = some env') (h : HD M base kont D k env' σ) : HDp M base kont D k env σ := by
  intro hch ops hc fuel listed g w a hdr hf
  obtain ⟨h1, _, h3⟩ := dRun_spec hr
  refine h hch ops hc fuel listed g w a ⟨hdr.rl, hdr.size, fun t ht ha => by rw [h1 t ht]; exact hdr.old t ht ha, fun j d t hj hdt hl => ?_, hdr.clos, hdr.eff, fun j d hj he hl => Nat.lt_succ_of_lt (hdr.bnd j d hj he hl), hdr.le⟩ hf
  have := h3 j d hj (by
    cases he : d.eff
    · have := hdr.bnd j d hj he hl
      exact .inr (by omega)
    · exact .inl rfl)
  rw [Nat.zero_add] at this
  rw [this]
  exact hdr.val j d t hj hdt hl

theorem hx_draw (h : HDp M base kont D 0 env σ) (hch : chained D (effsFrom 0 D) = true := by rfl) : HX M base (.code (.draw D) :: kont) env σ := by
  intro c hc g w a hr
  obtain ⟨id, ops, rfl, hcd⟩ : ∃ id ops, c = .region id ops true ∧ cmpDraw M.P M.nt ops D = true := by
    cases c <;> first
      | (simp [cmpC] at hc; done)
      | skip
    rename_i id ops dr
    cases dr
    · cases hc
    · exact ⟨id, ops, rfl, hc⟩
  have hc0 := hcd
  unfold cmpDraw at hcd
  simp only [Bool.and_eq_true] at hcd
  obtain ⟨⟨hmix, hcs⟩, hds⟩ := hcd
  have hsz : ops.size = D.length := by simpa using (cmpDs_spec hcs).1
  refine wpIn_region_any hmix (h hch ops hc0 ops.size _ g _ a ?_ ?_)
  · have hE : E g w g { w with drawn := w.drawn + 1 } := E.of_heap hr.rel.gw (Nat.le_refl _) (fun _ _ => rfl)
    have hR : Rel M.P g σ { w with drawn := w.drawn + 1 } := hr.rel.of_heap (Nat.le_refl _) (fun _ _ => rfl)
    have hr2 := hr.goes hE hR
    have hf : ∀ i, i < D.length → (Array.replicate ops.size false).getD i true = false := fun i hi => by simp [hsz, hi]
    refine ⟨hr2.withEnv (fun t => by simp only [look, R]), by simp [hsz], fun t ht _ => hr2.er t, fun j d t hj _ hl => ?_, fun i j hi hl _ => ?_, fun m i hm => ?_, fun j d hj _ hl => ?_, Nat.zero_le _⟩
    · rw [hf j (List.getElem?_eq_some_iff.1 hj).1] at hl; cases hl
    · rw [hf i hi] at hl; cases hl
    · obtain ⟨_, d, hd, _⟩ := effsFrom_mem hm
      have := (List.getElem?_eq_some_iff.1 hd).1
      rw [hf i (by simpa using this)]
      simp
    · rw [hf j (List.getElem?_eq_some_iff.1 hj).1] at hl; cases hl
  · unfold unl
    rw [Array.toList_replicate, List.count_replicate]
    simp

theorem hd_op {i : Nat} {d : DI} {v : Go.Hl.D} {σ' : St} {p : Prop} (hok : dOk M.nt σ k env 0 D) (he : (effsFrom 0 D)[k]? = some i) (hd : D[i]? = some d) (hg : guardB (envI env d.uses) d.guard = some true)
    (hs : hstep σ (evX σ (envI env d.uses)) d.op = some (v, σ', p)) (hp : p) (hn : HDp M base kont D (k + 1) (putE env (M.nt + i) v) σ') : HD M base kont D k env σ :=
  hd_main hok (fun _ => ⟨i, d, _, he, hd, eff_op hg hs hp, by rintro x σ1 ⟨rfl, rfl⟩; exact hn⟩) (fun h => by rw [List.getElem?_eq_none (by omega)] at he; cases he)
theorem hd_not {i : Nat} {d : DI} (hok : dOk M.nt σ k env 0 D) (he : (effsFrom 0 D)[k]? = some i) (hd : D[i]? = some d) (hg : guardB (envI env d.uses) d.guard = some false)
    (hn : HDp M base kont D (k + 1) (putE env (M.nt + i) .dead) σ) : HD M base kont D k env σ :=
  hd_main hok (fun _ => ⟨i, d, _, he, hd, eff_not hg, by rintro x σ1 ⟨rfl, rfl⟩; exact hn⟩) (fun h => by rw [List.getElem?_eq_none (by omega)] at he; cases he)
theorem hd_call {i : Nat} {d : DI} {f : X} {args : List X} {Q : Go.Hl.D → St → Prop} (hok : dOk M.nt σ k env 0 D) (he : (effsFrom 0 D)[k]? = some i) (hd : D[i]? = some d) (hop : d.op = .call f args) (hg : guardB (envI env d.uses) d.guard = some true)
    (hcall : HCallD M.P (evX σ (envI env d.uses) f) (args.map (evX σ (envI env d.uses))) σ Q) (hn : ∀ x σ', Q x σ' → HDp M base kont D (k + 1) (putE env (M.nt + i) x) σ') : HD M base kont D k env σ :=
  hd_main hok (fun _ => ⟨i, d, _, he, hd, eff_call hop hg hcall, hn⟩) (fun h => by rw [List.getElem?_eq_none (by omega)] at he; cases he)
theorem hd_end (hok : dOk M.nt σ k env 0 D) (he : (effsFrom 0 D).length = k) (hn : HX M base kont (dFin M.nt env 0 D (lowE M.nt env)) σ) : HD M base kont D k env σ :=
  hd_main hok (fun h => by omega) (fun _ => hn)

end

def runH (o : Option Env) (K : Env → Prop) : Prop := match o with
  | some e => K e
  | none => False
def effH (o : Option Nat) (K : Nat → Prop) (fin : Prop) : Prop := match o with
  | some i => K i
  | none => fin
def diH (o : Option DI) (K : DI → Prop) : Prop := match o with
  | some d => K d
  | none => False
def wantH (o : Option Bool) (P N : Prop) : Prop := match o with
  | some true => P
  | some false => N
  | none => False
def opH (op : HO) (stuck go : Prop) : Prop := match op with
  | .call _ _ => stuck
  | _ => go

def hdgo (M : Md) (base : HPost) (kont : List It) (D : List DI) : Nat → Nat → Env → St → Prop
  | 0, k, env, σ => HDp M base kont D k env σ
  | n + 1, k, env, σ => runH (dRun M.nt σ k 0 D env) fun env' => dOk M.nt σ k env' 0 D ∧
      effH (effsFrom 0 D)[k]? (fun i => diH D[i]? fun d => wantH (guardB (envI env' d.uses) d.guard)
          (opH d.op (HD M base kont D k env' σ) (bindH (hstep σ (evX σ (envI env' d.uses)) d.op) fun v σ' p => p ∧ hdgo M base kont D n (k + 1) (putE env' (M.nt + i) v) σ'))
          (hdgo M base kont D n (k + 1) (putE env' (M.nt + i) .dead) σ))
        ((effsFrom 0 D).length = k ∧ HX M base kont (dFin M.nt env' 0 D (lowE M.nt env')) σ)

section
variable {M : Md} {base : HPost} {kont : List It} {D : List DI}

theorem hdgo_sound : ∀ (n : Nat) {k : Nat} {env : Env} {σ : St}, hdgo M base kont D n k env σ → HDp M base kont D k env σ
  | 0, k, env, σ, h => h
  | n + 1, k, env, σ, h => by
    simp only [hdgo] at h
    unfold runH at h
    split at h; rotate_left; · exact h.elim
    rename_i env' hr
    obtain ⟨hok, h⟩ := h
    refine hdp_run hr ?_
    unfold effH at h
    split at h
    · rename_i i he
      unfold diH at h
      split at h; rotate_left; · exact h.elim
      rename_i d hd
      unfold wantH at h
      split at h
      · rename_i hg
        unfold opH at h
        split at h
        · exact h
        · unfold bindH at h
          split at h; rotate_left; · exact h.elim
          rename_i v σ' p hs
          exact hd_op hok he hd hg hs h.1 (hdgo_sound n h.2)
      · rename_i hg
        exact hd_not hok he hd hg (hdgo_sound n h)
      · exact h.elim
    · exact hd_end hok h.1 h.2

theorem hx_drawgo (n : Nat) {env : Env} {σ : St} (h : hdgo M base kont D n 0 env σ) (hch : chained D (effsFrom 0 D) = true := by rfl) : HX M base (.code (.draw D) :: kont) env σ := hx_draw (hdgo_sound n h) hch

theorem runH_some {e : Env} {K : Env → Prop} : runH (some e) K = K e := rfl
theorem effH_some {i : Nat} {K : Nat → Prop} {fin : Prop} : effH (some i) K fin = K i := rfl
theorem effH_none {K : Nat → Prop} {fin : Prop} : effH none K fin = fin := rfl
theorem diH_some {d : DI} {K : DI → Prop} : diH (some d) K = K d := rfl
theorem wantH_true {P N : Prop} : wantH (some true) P N = P := rfl
theorem wantH_false {P N : Prop} : wantH (some false) P N = N := rfl
theorem opH_go {op : HO} (h : NotCall op) {s g : Prop} : opH op s g = g := by
  cases op <;> first
    | rfl
    | exact absurd rfl (h.h.1 _ _)
theorem opH_call {f : X} {args : List X} {s g : Prop} : opH (.call f args) s g = s := rfl
theorem hdgo_zero {k : Nat} {env : Env} {σ : St} : hdgo M base kont D 0 k env σ = HDp M base kont D k env σ := rfl
theorem hdgo_succ {n : Nat} (hn : n ≠ 0) {k : Nat} {env : Env} {σ : St} : hdgo M base kont D n k env σ = runH (dRun M.nt σ k 0 D env) fun env' => dOk M.nt σ k env' 0 D ∧
      effH (effsFrom 0 D)[k]? (fun i => diH D[i]? fun d => wantH (guardB (envI env' d.uses) d.guard)
          (opH d.op (HD M base kont D k env' σ) (bindH (hstep σ (evX σ (envI env' d.uses)) d.op) fun v σ' p => p ∧ hdgo M base kont D (n - 1) (k + 1) (putE env' (M.nt + i) v) σ'))
          (hdgo M base kont D (n - 1) (k + 1) (putE env' (M.nt + i) .dead) σ))
        ((effsFrom 0 D).length = k ∧ HX M base kont (dFin M.nt env' 0 D (lowE M.nt env')) σ) := by
  cases n with | zero => exact absurd rfl hn | succ n => rfl
end

@[congr] theorem runH_congr {o o' : Option Env} {K : Env → Prop} (h : o = o') : runH o K = runH o' K := by rw [h]
@[congr] theorem effH_congr {o o' : Option Nat} {K : Nat → Prop} {fin : Prop} (h : o = o') : effH o K fin = effH o' K fin := by rw [h]
@[congr] theorem diH_congr {o o' : Option DI} {K : DI → Prop} (h : o = o') : diH o K = diH o' K := by rw [h]
@[congr] theorem wantH_congr {o o' : Option Bool} {P N : Prop} (h : o = o') : wantH o P N = wantH o' P N := by rw [h]
@[congr] theorem opH_congr {op op' : HO} {s g : Prop} (h : op = op') : opH op s g = opH op' s g := by rw [h]
@[congr] theorem hdgo_congr {M : Md} {base : HPost} {kont : List It} {D : List DI} {n n' k k' : Nat} {env env' : Env} {σ σ' : St} (h0 : n = n') (h3 : k = k') (h1 : env = env') (h2 : σ = σ') : hdgo M base kont D n k env σ = hdgo M base kont D n' k' env' σ' := by rw [h0, h3, h1, h2]
@[congr] theorem dRun_congr {nt nt' : Nat} {σ : St} {k i i' : Nat} {D : List DI} {env env' : Env} (h0 : nt = nt') (hi : i = i') (h : env = env') : dRun nt σ k i D env = dRun nt' σ k i' D env' := by rw [h0, hi, h]
@[congr] theorem dOk_congr {nt nt' : Nat} {σ : St} {k i i' : Nat} {D : List DI} {env : Env} (h0 : nt = nt') (hi : i = i') : dOk nt σ k env i D = dOk nt' σ k env i' D := by rw [h0, hi]
@[congr] theorem dFin_congr {nt nt' i i' : Nat} {D : List DI} {env : Env} {e e' : Env} (h0 : nt = nt') (hi : i = i') (h : e = e') : dFin nt env i D e = dFin nt' env i' D e' := by rw [h0, hi, h]

end Go.Hl
set_option linter.unusedSectionVars false
set_option linter.unusedVariables false
namespace Go.Hl
open Go Go.RowKit

def g0 : G := ⟨fun _ => none, 0⟩
def σ0 : St := ⟨fun _ => none, fun _ => none, 0⟩

theorem rel0 (P : Program) (W : World) : Rel P g0 σ0 W where
  gw := { lt := (fun _ _ h => by cases h), bl := (fun _ _ _ h => by cases h), inj := (fun _ _ _ _ _ h => by cases h), arr := (fun _ _ _ _ _ h => by cases h) }
  next := rfl
  obj := fun _ _ h => by cases h
  glob := fun _ _ h => by cases h

theorem opt_mapM {α β : Type} {f : α → Option β} : ∀ {l : List α} {ys : List β}, l.mapM f = some ys → ys.length = l.length ∧ ∀ (i : Nat) x, l[i]? = some x → ∃ y, ys[i]? = some y ∧ f x = some y
  | [], ys, h => by
    simp at h
    subst h
    exact ⟨rfl, fun i x h => by simp at h⟩
  | a :: l, ys, h => by
    rw [List.mapM_cons] at h
    cases ha : f a with
    | none => simp [ha] at h
    | some y =>
      cases hl : l.mapM f with
      | none => simp [ha, hl] at h
      | some zs =>
        simp [ha, hl] at h
        subst h
        obtain ⟨h1, h2⟩ := opt_mapM hl
        refine ⟨by simp [h1], fun i x hx => ?_⟩
        cases i with
        | zero =>
          simp at hx
          subst hx
          exact ⟨y, rfl, ha⟩
        | succ i => simpa using h2 i x (by simpa using hx)

section
variable {H : Type} {enc : TypeId × Value → H} {P : Program} {W : World} {sp : Nat → Bool} {held : Bool}

end

end Go.Hl
