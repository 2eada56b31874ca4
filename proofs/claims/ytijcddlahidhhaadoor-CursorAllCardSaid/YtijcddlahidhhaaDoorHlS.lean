/-
  The equations of the walk's functions, as rewriting steps with a proof of their own.
-/
import Derived.Test.YtijcddlahidhhaaDoorHlP
import Derived.Test.YtijcddlahidhhaaDoorCodes
import Derived.IntWalk
import Derived.Below
import Derived.Lib.ConvBytes
import Derived.Shelf.Strings.Builder1
import Derived.Shelf.Small.Strs
import Derived.Shelf.Strconv.Atoi
import Derived.Shelf.Strconv.Itoa0
import Derived.Shelf.Strconv.Itoa1
import Derived.Shelf.LaysM
import Derived.Shelf.Strconv.Itoa2
import Derived.Shelf.Strconv.Itoa3
import Derived.Shelf.Strconv.AtoiErrFast
import Derived.Shelf.Strconv.ParseIntEmpty
import Derived.Shelf.Strconv.AtoiFail
import Derived.Shelf.Strconv.Clone
import Derived.Shelf.Strconv.SyntaxError
import Derived.Shelf.LaysC
import Derived.Shelf.Strconv.ToError
import Derived.Shelf.Strconv.Lower
import Derived.Shelf.Strconv.ParseUint10
import Derived.Shelf.Strconv.ParseUint10Empty
import Derived.Shelf.Strconv.ParseUint10Any
import Derived.Shelf.Strconv.ParseInt10
import Derived.Shelf.Strconv.AtoiLong
import Derived.Shelf.Strconv.AtoiInnerAll
import Derived.Shelf.Strconv.RangeError
import Derived.Shelf.Strconv.ToErrorRange
import Derived.Shelf.Strconv.AtoiAll
import Derived.Shelf.Strings.Search1
import Derived.Shelf.Strings.Search2
import Derived.Shelf.Strings.Search3
import Derived.Shelf.Strings.Cut
import Derived.Shelf.Strings.Shaped
import Derived.Shelf.Strings.Prefix
import Derived.Test.YtijcddlahidhhaaDoorProg
import Derived.Lib.ItoaNum
import Derived.Lib.AtoiAll
import Derived.Lib.ItoaMem
set_option linter.unusedSectionVars false
set_option linter.unusedVariables false
namespace Go.Hl
open Go

theorem evX_e : type_of% @evX.eq_def := @evX.eq_def
theorem putO_e : type_of% @putO.eq_def := @putO.eq_def
theorem rdD_e : type_of% @rdD.eq_def := @rdD.eq_def
theorem binD_e : type_of% @binD.eq_def := @binD.eq_def
theorem storeD_e : type_of% @storeD.eq_def := @storeD.eq_def
theorem wrD_e : type_of% @wrD.eq_def := @wrD.eq_def
theorem boundD_e : type_of% @boundD.eq_def := @boundD.eq_def
theorem sliceD_e : type_of% @sliceD.eq_def := @sliceD.eq_def
theorem sliceSD_e : type_of% @sliceSD.eq_def := @sliceSD.eq_def
theorem appendD_e : type_of% @appendD.eq_def := @appendD.eq_def
theorem vsliceD_e : type_of% @vsliceD.eq_def := @vsliceD.eq_def
theorem vappendD_e : type_of% @vappendD.eq_def := @vappendD.eq_def
theorem srcD_e : type_of% @srcD.eq_def := @srcD.eq_def
theorem hval_e : type_of% @hval.eq_def := @hval.eq_def
theorem hstep_e : type_of% @hstep.eq_def := @hstep.eq_def
theorem hone_e : type_of% @hone.eq_def := @hone.eq_def
theorem pickV_e : type_of% @pickV.eq_def := @pickV.eq_def
theorem addB_e : type_of% @addB.eq_def := @addB.eq_def
theorem nilEqD_e : type_of% @nilEqD.eq_def := @nilEqD.eq_def
theorem ifEqD_e : type_of% @ifEqD.eq_def := @ifEqD.eq_def
theorem usdD_e : type_of% @usdD.eq_def := @usdD.eq_def
theorem ustrD_e : type_of% @ustrD.eq_def := @ustrD.eq_def
theorem dOne_e : type_of% @dOne.eq_def := @dOne.eq_def
theorem guardB_e : type_of% @guardB.eq_def := @guardB.eq_def
theorem envI_e : type_of% @envI.eq_def := @envI.eq_def
theorem look_e1 : type_of% @look.eq_1 := @look.eq_1
theorem look_e2 : type_of% @look.eq_2 := @look.eq_2
theorem putE_e1 : type_of% @putE.eq_1 := @putE.eq_1
theorem putE_e2 : type_of% @putE.eq_2 := @putE.eq_2
theorem killE_e1 : type_of% @killE.eq_1 := @killE.eq_1
theorem killE_e2 : type_of% @killE.eq_2 := @killE.eq_2
theorem killsE_e1 : type_of% @killsE.eq_1 := @killsE.eq_1
theorem killsE_e2 : type_of% @killsE.eq_2 := @killsE.eq_2
theorem delN_e1 : type_of% @delN.eq_1 := @delN.eq_1
theorem delN_e2 : type_of% @delN.eq_2 := @delN.eq_2
theorem delsN_e1 : type_of% @delsN.eq_1 := @delsN.eq_1
theorem delsN_e2 : type_of% @delsN.eq_2 := @delsN.eq_2
theorem buildD_e1 : type_of% @buildD.eq_1 := @buildD.eq_1
theorem buildD_e2 : type_of% @buildD.eq_2 := @buildD.eq_2
theorem fillD_e1 : type_of% @fillD.eq_1 := @fillD.eq_1
theorem fillD_e2 : type_of% @fillD.eq_2 := @fillD.eq_2
theorem hexit_e1 : type_of% @hexit.eq_1 := @hexit.eq_1
theorem hexit_e2 : type_of% @hexit.eq_2 := @hexit.eq_2
theorem hexit_e3 : type_of% @hexit.eq_3 := @hexit.eq_3
theorem dRun_e1 : type_of% @dRun.eq_1 := @dRun.eq_1
theorem dRun_e2 : type_of% @dRun.eq_2 := @dRun.eq_2
theorem dOk_e1 : type_of% @dOk.eq_1 := @dOk.eq_1
theorem dOk_e2 : type_of% @dOk.eq_2 := @dOk.eq_2
theorem dFin_e1 : type_of% @dFin.eq_1 := @dFin.eq_1
theorem dFin_e2 : type_of% @dFin.eq_2 := @dFin.eq_2
theorem lowE_e1 : type_of% @lowE.eq_1 := @lowE.eq_1
theorem lowE_e2 : type_of% @lowE.eq_2 := @lowE.eq_2
theorem effsFrom_e1 : type_of% @effsFrom.eq_1 := @effsFrom.eq_1
theorem effsFrom_e2 : type_of% @effsFrom.eq_2 := @effsFrom.eq_2
theorem eqCells_e1 : type_of% @eqCells.eq_1 := @eqCells.eq_1
theorem eqCells_e2 : type_of% @eqCells.eq_2 := @eqCells.eq_2
theorem eqCells_e3 : type_of% @eqCells.eq_3 := @eqCells.eq_3
theorem eqCells_e4 : type_of% @eqCells.eq_4 := @eqCells.eq_4

end Go.Hl
set_option linter.unusedSectionVars false
set_option linter.unusedVariables false
namespace Go.Hl
open Go

def useV (nt : Nat) (env : Env) (V : Nat → D) (uses : List (Nat × Nat)) : Env := uses.map fun u => (u.1, if u.2 < nt then look env u.2 else V (u.2 - nt))

def upd {α : Type} (V : Nat → α) (i : Nat) (x : α) : Nat → α := fun j => if j = i then x else V j

inductive StepV (P : Program) (e : Env) (d : DI) (σ : St) : (D → St → Prop) → Prop
  | op {v : D} {σ' : St} {p : Prop} : guardB e d.guard = some true → hstep σ (evX σ e) d.op = some (v, σ', p) → p → StepV P e d σ fun x s => x = v ∧ s = σ'
  | not : guardB e d.guard = some false → StepV P e d σ fun x s => x = .dead ∧ s = σ
  | call {f : X} {args : List X} {Q : D → St → Prop} : d.op = .call f args → guardB e d.guard = some true → HCallD P (evX σ e f) (args.map (evX σ e)) σ Q → StepV P e d σ Q

def allD (i : Nat) : List DI → (Nat → DI → Prop) → Prop
  | [], _ => True
  | d :: D, F => F i d ∧ allD (i + 1) D F

theorem allD_spec {F : Nat → DI → Prop} : ∀ {D : List DI} {i : Nat}, allD i D F → ∀ (j : Nat) d, D[j]? = some d → F (i + j) d
  | [], i, _, j, d, h => by simp at h
  | x :: D, i, h, 0, d, hj => by
    simp at hj
    subst hj
    exact h.1
  | x :: D, i, h, j + 1, d, hj => by
    have := allD_spec h.2 j d (by simpa using hj)
    rwa [show i + 1 + j = i + (j + 1) by omega] at this

def dFinV (V : Nat → D) : Nat → List DI → Env → Env
  | _, [], e => e
  | i, d :: D, e => match d.dst with
    | some t => dFinV V (i + 1) D (putE e t (V i))
    | none => dFinV V (i + 1) D e

structure DSt (M : Md) (D : List DI) (env : Env) (V : Nat → Go.Hl.D) (listed : Array Bool) (g : G) (w : World) (σ : St) (a : Act) : Prop where
  rl : Rl M g w σ [] a
  size : listed.size = D.length
  old : ∀ t, t < M.nt → (∀ (j : Nat) d, D[j]? = some d → d.dst = some t → listed.getD j true = false) → R g w (look env t) (a.tmps.getD t Go.undef)
  val : ∀ (j : Nat) d t, D[j]? = some d → d.dst = some t → listed.getD j true = true → R g w (V j) (a.tmps.getD t Go.undef)
  clos : ∀ (i j : Nat), i < D.length → listed.getD i true = true → (ancOf D i).testBit j = true → listed.getD j true = true ∧ j < D.length

section
variable {M : Md} {base : HPost} {kont : List It} {D : List DI} {env : Env} {σ : St}

theorem DSt.uses_ER {V : Nat → Go.Hl.D} {listed : Array Bool} {g : G} {w : World} {a : Act} (hdr : DSt M D env V listed g w σ a) {i : Nat} {d : DI} (hd : D[i]? = some d)
    (hu : listed.getD i true = false) (hpre : ∀ j, d.anc.testBit j = true → listed.getD j true = true ∧ j < D.length) (huse : (d.uses.all (useOk M.nt D i d.anc)) = true) : ER g w (useV M.nt env V d.uses) a.tmps := by
  have hi := (List.getElem?_eq_some_iff.1 hd).1
  have key : ∀ (us : List (Nat × Nat)), (∀ u ∈ us, useOk M.nt D i d.anc u = true) → ER g w (useV M.nt env V us) a.tmps := by
    intro us
    induction us with
    | nil => intro _ t; simp only [useV, List.map_nil, look, R]
    | cons u us ih =>
      intro h t
      simp only [useV, List.map_cons, look]
      split
      · rename_i e
        subst e
        have := h u (by simp)
        simp only [useOk] at this
        split at this
        · rename_i hlt
          simp only [Bool.and_eq_true, beq_iff_eq] at this
          obtain ⟨h1, hl⟩ := this
          rw [if_pos hlt, ← h1]
          refine hdr.old u.1 (by omega) fun j d' hj hdt => ?_
          rcases laterAll_spec hl hj hdt with e | e
          · simp only [Nat.zero_add] at e
            subst e
            exact hu
          · cases hlj : listed.getD j true
            · rfl
            · have hjl := (List.getElem?_eq_some_iff.1 hj).1
              have := (hdr.clos j i hjl hlj (by simp [ancOf, hj, e])).1
              rw [hu] at this
              cases this
        · rename_i hge
          simp only [Bool.and_eq_true, beq_iff_eq] at this
          obtain ⟨h1, h2⟩ := this
          rw [if_neg hge]
          cases hj : D[u.2 - M.nt]? with
          | none => simp [hj] at h1
          | some d' =>
            simp only [hj, Option.map_some, Option.some.injEq] at h1
            exact hdr.val (u.2 - M.nt) d' u.1 hj h1 (hpre _ h2).1
      · exact ih (fun v hv => h v (by simp [hv])) t
  exact key d.uses fun u hu => List.all_eq_true.1 huse u hu

theorem DSt.next {V : Nat → Go.Hl.D} {listed : Array Bool} {g g' : G} {w w' : World} {a : Act} {σ' : St} {i : Nat} {d : DI} {o : Oper} {x : Go.Hl.D} {v : Value} (hdr : DSt M D env V listed g w σ a) (hd : D[i]? = some d) (hdo : o.dst = d.dst)
    (hlt : (match d.dst with | some t => decide (t < M.nt) | none => true) = true) (hds : dstsOk (D.map (·.dst)) = true)
    (hu : listed.getD i true = false) (hpre : ∀ j, d.anc.testBit j = true → listed.getD j true = true ∧ j < D.length)
    (hE : E g w g' w') (hR : Rel M.P g' σ' w') (hv : R g' w' x v) :
    DSt M D env (upd V i x) (listed.setIfInBounds i true) g' w' σ' (a.put o.dst v) := by
  have hi := (List.getElem?_eq_some_iff.1 hd).1
  have his : i < listed.size := by rw [hdr.size]; exact hi
  have hlist : ∀ j, j ≠ i → (listed.setIfInBounds i true).getD j true = listed.getD j true := fun j hj => getD_set_ne true (Ne.symm hj)
  have hself : (listed.setIfInBounds i true).getD i true = true := getD_set_self true his
  have hput : ∀ t, t < M.nt → (a.put o.dst v).tmps.getD t Go.undef = if d.dst = some t then v else a.tmps.getD t Go.undef := by
    intro t ht
    rw [hdo]
    cases hdd : d.dst with
    | none => simp [Act.put]
    | some s =>
      simp only [Act.put, Option.some.injEq]
      split
      · rename_i e
        subst e
        rw [Array.getD_eq_getD_getElem?, Array.getElem?_setIfInBounds_self_of_lt (by rw [hdr.rl.nt]; exact ht)]
        rfl
      · rename_i e
        rw [Array.getD_eq_getD_getElem?, Array.getElem?_setIfInBounds_ne (fun h => e h), ← Array.getD_eq_getD_getElem?]
  refine ⟨?_, by simp [hdr.size], fun t ht hall => ?_, fun j dj t hj hdj hl => ?_, fun j1 j2 hj1 hl hb => ?_⟩
  · have hlt' : (match o.dst with | some t => decide (t < M.nt) | none => true) = true := by rw [hdo]; exact hlt
    have := hdr.rl.put (dst := o.dst) (d := .undef) hE hR (v := v) (by simp only [R]) hlt'
    refine ⟨this.gs, this.e, this.rel, fun t => by simp only [look, R], this.nt, this.defs, this.rnd⟩
  · have hne : ¬ d.dst = some t := fun e => by
      have := hall i d hd e
      rw [hself] at this
      cases this
    rw [hput t ht, if_neg hne]
    refine R.mono hE hdr.rl.rel.gw _ _ (hdr.old t ht fun j d' hj hdj => ?_)
    have := hall j d' hj hdj
    rwa [hlist j (fun e => by subst e; rw [hd] at hj; injection hj with hj; subst hj; exact hne hdj)] at this
  · by_cases e : j = i
    · subst e
      rw [hd] at hj
      injection hj with hj
      subst hj
      have htlt : t < M.nt := by rw [hdj] at hlt; simpa using hlt
      rw [hput t htlt, if_pos hdj]
      simpa only [upd, if_true] using hv
    · rw [hlist j e] at hl
      have hne : ¬ d.dst = some t := fun h => e (dstsOk_spec (t := t) hds (by simp [hj, hdj]) (by simp [hd, h]))
      have hR0 := hdr.val j dj t hj hdj hl
      simp only [upd, if_neg e]
      have : (a.put o.dst v).tmps.getD t Go.undef = a.tmps.getD t Go.undef := by
        rw [hdo]
        cases hdd : d.dst with
        | none => simp [Act.put]
        | some s =>
          simp only [Act.put]
          rw [Array.getD_eq_getD_getElem?, Array.getElem?_setIfInBounds_ne (fun h => hne (by rw [hdd, h])), ← Array.getD_eq_getD_getElem?]
      rw [this]
      exact R.mono hE hdr.rl.rel.gw _ _ hR0
  · by_cases e : j1 = i
    · subst e
      have hb' : d.anc.testBit j2 = true := by simpa [ancOf, hd] using hb
      obtain ⟨h1, h2⟩ := hpre j2 hb'
      refine ⟨?_, h2⟩
      by_cases e2 : j2 = j1
      · subst e2; exact hself
      · rw [hlist j2 e2]; exact h1
    · rw [hlist j1 e] at hl
      obtain ⟨h1, h2⟩ := hdr.clos j1 j2 hj1 hl hb
      refine ⟨?_, h2⟩
      by_cases e2 : j2 = i
      · subst e2; exact hself
      · rw [hlist j2 e2]; exact h1

theorem look_dFinV (V : Nat → Go.Hl.D) : ∀ (D : List DI) (i : Nat) (e : Env) (t : Nat), dstsOk (D.map (·.dst)) = true →
    ((∀ (j : Nat) d, D[j]? = some d → d.dst ≠ some t) → look (dFinV V i D e) t = look e t) ∧
    (∀ (j : Nat) d, D[j]? = some d → d.dst = some t → look (dFinV V i D e) t = V (i + j))
  | [], i, e, t, _ => ⟨fun _ => rfl, fun j d h => by simp at h⟩
  | x :: D, i, e, t, hd => by
    have hd' := hd
    simp only [List.map_cons, dstsOk, Bool.and_eq_true] at hd
    simp only [dFinV]
    cases hx : x.dst with
    | none =>
      obtain ⟨h1, h2⟩ := look_dFinV V D (i + 1) e t hd.2
      refine ⟨fun h => h1 fun j d hj => h (j + 1) d (by simpa using hj), fun j d hj hdt => ?_⟩
      cases j with
      | zero => simp at hj; subst hj; rw [hx] at hdt; cases hdt
      | succ j =>
        have := h2 j d (by simpa using hj) hdt
        rwa [show i + 1 + j = i + (j + 1) by omega] at this
    | some s =>
      simp only
      obtain ⟨h1, h2⟩ := look_dFinV V D (i + 1) (putE e s (V i)) t hd.2
      refine ⟨fun h => ?_, fun j d hj hdt => ?_⟩
      · rw [h1 fun j d hj => h (j + 1) d (by simpa using hj), look_putE, if_neg (fun e => h 0 x rfl (by rw [hx, e]))]
      · cases j with
        | zero =>
          simp at hj
          subst hj
          rw [hx] at hdt
          injection hdt with hdt
          subst hdt
          rw [h1 (fun j d hj hdt => ?_), look_putE, if_pos rfl, Nat.add_zero]
          have := dstsOk_spec (i := 0) (j := j + 1) (t := s) hd' (by simp [hx]) (by simp [hj, hdt])
          omega
        | succ j =>
          have := h2 j d (by simpa using hj) hdt
          rwa [show i + 1 + j = i + (j + 1) by omega] at this

theorem callE {e : Env} {i : Nat} {d : DI} {f : X} {args : List X} {Q : Go.Hl.D → St → Prop} (hop : d.op = .call f args) (hg : guardB e d.guard = some true)
    (hcall : HCallD M.P (evX σ e f) (args.map (evX σ e)) σ Q) :
    ∀ ops o, ops[i]? = some o → cmpOp M.P M.nt ops o ⟨d.dst, d.guard, d.op⟩ = true → isKill d.op = false → ∀ g w a, Rl M g w σ e a → ∀ (Q' : Exit → Act → World → Prop) (K : Act → World → Prop),
    (∀ g' w' v x σ', E g w g' w' → Rel M.P g' σ' w' → R g' w' x v → Q x σ' → K (a.put o.dst v) w') → wpOpIn M.F 0 M.P ops Q' i K a w := by
  intro ops o ho hc hk g w a hr Q' K hK
  obtain ⟨h1, h2, h3, h4⟩ := cmpOp_parts hc
  unfold wpOpIn
  simp only [ho]
  rw [if_pos (wanted_of hr.er h3 hg)]
  refine ⟨fun f _ => M.F_fn f, ?_⟩
  rw [Oper.semAt_eq _ _ _ (not_defer hc)]
  obtain ⟨dst', op, type, pos, after, guard⟩ := o
  simp only [hop] at h4 h1
  unfold cmpCall at h4
  split at h4; rotate_left; · cases h4
  rename_i c hop'
  split at h4; rotate_left; · cases h4
  rename_i f' hcal
  simp only at hop'
  subst hop'
  simp only [Bool.and_eq_true] at h4
  obtain ⟨h4, h5⟩ := h4
  obtain ⟨fn, cap, hv, hnext⟩ := hcall g w _ _ hr.rel (evX_R hr.rel hr.er h4) (evXs_RL hr.rel hr.er h5)
  have hrun : (execOp a.eval { dst := dst', op := .call c, type := type, pos := pos, after := after, guard := guard }).run M.P w = (invoke (.fn fn cap) (c.args.toList.map a.eval).toArray).run M.P w := by
    have e : #[] ++ Array.map a.eval c.args = (c.args.toList.map a.eval).toArray := by
      apply Array.ext'
      simp
    simp only [execOp, resolve, hcal, Deferred.ofValue, hv, Sem.run_bind, Sem.run_pure, Result.andThen_ok, e]
  rw [hrun]
  refine uponIn_of_next hnext ?_
  intro e w' he
  cases e <;> simp only [HRet] at he
  obtain ⟨x, g', σ', hE, hR, hd, hq⟩ := he
  exact ⟨_, rfl, hK g' w' _ x σ' hE hR hd hq⟩

def goV (P : Program) (e : Env) (d : DI) (σ : St) (F : Go.Hl.D → St → Prop) : Prop :=
  wantH (guardB e d.guard)
    (opH d.op (∃ f args Q, d.op = .call f args ∧ HCallD P (evX σ e f) (args.map (evX σ e)) σ Q ∧ ∀ x σ', Q x σ' → F x σ') (bindH (hstep σ (evX σ e) d.op) fun v σ' p => p ∧ F v σ'))
    (F .dead σ)

theorem goV_step {P : Program} {e : Env} {d : DI} {σ : St} {F : Go.Hl.D → St → Prop} (h : goV P e d σ F) : ∃ Next, StepV P e d σ Next ∧ ∀ x σ', Next x σ' → F x σ' := by
  unfold goV wantH at h
  split at h
  · rename_i hg
    unfold opH at h
    split at h
    · obtain ⟨f, args, Q, hop, hc, hn⟩ := h
      exact ⟨Q, .call hop hg hc, hn⟩
    · unfold bindH at h
      split at h; rotate_left; · exact h.elim
      rename_i v σ' p hs
      exact ⟨_, .op hg hs h.1, by rintro x σ1 ⟨rfl, rfl⟩; exact h.2⟩
  · rename_i hg
    exact ⟨_, .not hg, by rintro x σ1 ⟨rfl, rfl⟩; exact h⟩
  · exact h.elim

theorem hx_drawS (K : (Nat → Bool) → (Nat → Go.Hl.D) → St → Prop) (h0 : K (fun _ => false) (fun _ => .undef) σ)
    (hs : ∀ L V σ, K L V σ → allD 0 D fun i d => L i = false → (∀ j, d.anc.testBit j = true → L j = true) → goV M.P (useV M.nt env V d.uses) d σ fun x σ' => K (upd L i true) (upd V i x) σ')
    (hfin : ∀ L V σ', (∀ i, i < D.length → L i = true) → K L V σ' → HX M base kont (dFinV V 0 D (lowE M.nt env)) σ') : HX M base (.code (.draw D) :: kont) env σ := by
  intro c hc g w a hr
  obtain ⟨id, ops, rfl, hcd⟩ : ∃ id ops, c = .region id ops true ∧ cmpDraw M.P M.nt ops D = true := by
    cases c <;> first
      | (simp [cmpC] at hc; done)
      | skip
    rename_i id ops dr
    cases dr
    · cases hc
    · exact ⟨id, ops, rfl, hc⟩
  unfold cmpDraw at hcd
  simp only [Bool.and_eq_true] at hcd
  obtain ⟨⟨hmix, hcs⟩, hds⟩ := hcd
  obtain ⟨hlen, hcs⟩ := cmpDs_spec hcs
  have hsz : ops.size = D.length := by simpa using hlen
  have item : ∀ i, i < D.length → ∃ o d, ops[i]? = some o ∧ D[i]? = some d ∧ cmpD1 M.P M.nt ops D i o d = true := fun i hi => by
    refine ⟨ops[i], D[i], Array.getElem?_eq_getElem (by omega), List.getElem?_eq_getElem hi, ?_⟩
    have := hcs i ops[i] D[i] (by rw [Array.getElem?_toList, Array.getElem?_eq_getElem (by omega)]) (List.getElem?_eq_getElem hi)
    simpa using this
  have fin : ∀ (L : Nat → Bool) (V : Nat → Go.Hl.D) (σ : St) (listed : Array Bool) (g : G) (w : World) (a : Act), DSt M D env V listed g w σ a → K L V σ → (∀ i, i < D.length → L i = listed.getD i true) → (∀ i, i < D.length → listed.getD i true = true) → Out M (KP M base kont) .normal a w := by
    intro L V σ listed g w a hdr hK hL hall
    refine ⟨g, _, σ, hdr.rl.withEnv fun t => ?_, hfin L V σ (fun i hi => by rw [hL i hi, hall i hi]) hK⟩
    obtain ⟨h1, h2⟩ := look_dFinV V D 0 (lowE M.nt env) t hds
    by_cases hex : ∃ (j : Nat) (d : DI), D[j]? = some d ∧ d.dst = some t
    · obtain ⟨j, d, hj, hdt⟩ := hex
      rw [h2 j d hj hdt, Nat.zero_add]
      exact hdr.val j d t hj hdt (hall j (List.getElem?_eq_some_iff.1 hj).1)
    · rw [h1 (fun j d hj hdt => hex ⟨j, d, hj, hdt⟩), look_lowE]
      split
      · rename_i ht
        exact hdr.old t ht fun j d hj hdt => absurd ⟨j, d, hj, hdt⟩ hex
      · simp only [R]
  have main : ∀ (fuel : Nat) (L : Nat → Bool) (V : Nat → Go.Hl.D) (σ : St) (listed : Array Bool) (g : G) (w : World) (a : Act), DSt M D env V listed g w σ a → K L V σ → (∀ i, i < D.length → L i = listed.getD i true) →
      unl listed.toList ≤ fuel → wpAnyIn M.F 0 M.P .any ops (Out M (KP M base kont)) fuel listed a w := by
    intro fuel
    induction fuel with
    | zero =>
      intro L V σ listed g w a hdr hK hL hf
      have hall : ∀ i, i < D.length → listed.getD i true = true := fun i hi => by
        cases h : listed.getD i true
        · have := unl_pos (by rw [hdr.size]; exact hi) h
          omega
        · rfl
      refine ⟨?_, fin L V σ listed g w a hdr hK hL hall⟩
      cases hr : Region.ready .any ops listed with
      | nil => rfl
      | cons i r =>
        have : i ∈ Region.ready .any ops listed := by rw [hr]; simp
        rw [mem_ready] at this
        obtain ⟨h1, o, ho, _⟩ := this
        have hi : i < D.length := by rw [← hsz]; exact (Array.getElem?_eq_some_iff.1 ho).1
        rw [hall i hi] at h1
        cases h1
    | succ fuel ih =>
      intro L V σ listed g w a hdr hK hL hf
      refine ⟨fun hr => fin L V σ listed g w a hdr hK hL fun i => ?_, fun i hi => ?_⟩
      · induction i using Nat.strongRecOn with
        | _ i ihi =>
          intro hi
          cases h : listed.getD i true
          · exfalso
            obtain ⟨o, d, ho, hd, hc1⟩ := item i hi
            unfold cmpD1 at hc1
            simp only [Bool.and_eq_true] at hc1
            have hed := List.all_eq_true.1 hc1.1.1.1.2
            have : i ∈ Region.ready .any ops listed := by
              rw [mem_ready]
              refine ⟨h, o, ho, fun e he hb => ?_⟩
              have := hed e (by simpa using he)
              simp only [hb, Bool.not_true, Bool.false_or, decide_eq_true_eq] at this
              have hlt : e.on < D.length := by omega
              rw [← getD_tf (by rw [hdr.size]; exact hlt)]
              exact ihi e.on this hlt
            rw [hr] at this
            cases this
          · rfl
      · rw [mem_ready] at hi
        obtain ⟨hu, o, ho, hbef⟩ := hi
        have hil : i < D.length := by rw [← hsz]; exact (Array.getElem?_eq_some_iff.1 ho).1
        obtain ⟨o', d, ho', hd, hc1⟩ := item i hil
        rw [ho] at ho'
        injection ho' with ho'
        subst ho'
        unfold cmpD1 at hc1
        simp only [Bool.and_eq_true] at hc1
        obtain ⟨⟨⟨⟨⟨hop, hnk⟩, hed⟩, hanc⟩, huse⟩, hw⟩ := hc1
        have hnk' : isKill d.op = false := by simpa using hnk
        have hed := List.all_eq_true.1 hed
        have hanc : edgeBits (ancOf D) i o.after.toList = d.anc := by simpa using hanc
        have hpre : ∀ j, d.anc.testBit j = true → listed.getD j true = true ∧ j < D.length := fun j hj => by
          rw [← hanc] at hj
          obtain ⟨e, he, hb, hor⟩ := edgeBits_spec hj
          have hlt := hed e he
          simp only [hb, Bool.not_true, Bool.false_or, decide_eq_true_eq] at hlt
          have hlt' : e.on < D.length := by omega
          have hle := hbef e (by simpa using he) hb
          rw [← getD_tf (by rw [hdr.size]; exact hlt')] at hle
          rcases hor with rfl | h
          · exact ⟨hle, hlt'⟩
          · exact hdr.clos e.on j hlt' hle h
        have hER := hdr.uses_ER hd hu hpre huse
        have hrl : Rl M g w σ (useV M.nt env V d.uses) a := hdr.rl.withEnv hER
        obtain ⟨p1, p2, p3, p4⟩ := cmpOp_parts hop
        have hfuel : unl (listed.setIfInBounds i true).toList ≤ fuel := by
          have := unl_set (by rw [hdr.size]; exact hil) hu
          omega
        have hst := allD_spec (hs L V σ hK) i d hd
        rw [Nat.zero_add] at hst
        obtain ⟨Next, hstep', hnext⟩ := goV_step (hst (by rw [hL i hil, hu]) (fun j hj => by rw [hL j (hpre j hj).2, (hpre j hj).1]))
        have hL' : ∀ j, j < D.length → upd L i true j = (listed.setIfInBounds i true).getD j true := fun j hj => by
          by_cases e : j = i
          · subst e
            simp only [upd, if_true]
            exact (getD_set_self true (by rw [hdr.size]; exact hil)).symm
          · simp only [upd, if_neg e]
            rw [hL j hj, getD_set_ne true (Ne.symm e)]
        have hgo : ∀ g' w' v x σ', E g w g' w' → Rel M.P g' σ' w' → R g' w' x v → Next x σ' → wpAnyIn M.F 0 M.P .any ops (Out M (KP M base kont)) fuel (listed.setIfInBounds i true) (a.put o.dst v) w' := fun g' w' v x σ' hE hR hv hn =>
          ih (upd L i true) (upd V i x) σ' _ g' w' _ (hdr.next hd p1 p2 hds hu hpre hE hR hv) (hnext x σ' hn) hL' hfuel
        cases hstep' with
        | op hg hv hp =>
          have p4' : (cmpHV M.P o d.op || cmpHS M.P o d.op) = true := by
            have hnc : ∀ f args, d.op ≠ .call f args := fun f args e => by rw [e] at hv; simp [hstep, Go.Hl.hval] at hv
            simp only at p4
            exact p4
          unfold wpOpIn
          simp only [ho]
          rw [if_pos (wanted_of hER p3 hg)]
          obtain ⟨u, w', g', hrun, hE, hR, hd'⟩ := hstep_run hrl.rel hrl.er p4' hv hp
          exact wpIn_value (not_defer hop) hrun (hgo g' w' u _ _ hE hR hd' ⟨rfl, rfl⟩)
        | not hg =>
          unfold wpOpIn
          simp only [ho]
          rw [if_neg (by rw [wanted_of hER p3 hg]; decide)]
          exact ⟨fun f _ => M.F_fn f, hgo g w Go.undef .dead σ (E.refl g w hdr.rl.rel.gw) hdr.rl.rel (by simp only [R]) ⟨rfl, rfl⟩⟩
        | call hopc hg hcall =>
          exact callE hopc hg hcall ops o ho hop hnk' g w a hrl _ _ (fun g' w' v x σ' hE hR hv hn => hgo g' w' v x σ' hE hR hv hn)
  refine wpIn_region_any hmix (main ops.size _ _ σ _ g _ a ?_ h0 (fun i hi => ?_) ?_)
  · have hE : E g w g { w with drawn := w.drawn + 1 } := E.of_heap hr.rel.gw (Nat.le_refl _) (fun _ _ => rfl)
    have hR : Rel M.P g σ { w with drawn := w.drawn + 1 } := hr.rel.of_heap (Nat.le_refl _) (fun _ _ => rfl)
    have hr2 := hr.goes hE hR
    have hf : ∀ i, i < D.length → (Array.replicate ops.size false).getD i true = false := fun i hi => by simp [hsz, hi]
    refine ⟨hr2.withEnv (fun t => by simp only [look, R]), by simp [hsz], fun t ht _ => hr2.er t, fun j d t hj _ hl => ?_, fun i j hi hl _ => ?_⟩
    · rw [hf j (List.getElem?_eq_some_iff.1 hj).1] at hl; cases hl
    · rw [hf i hi] at hl; cases hl
  · simp [hsz, hi]
  · unfold unl
    rw [Array.toList_replicate, List.count_replicate]
    simp

end

theorem upd_e {α : Type} (V : Nat → α) (i : Nat) (x : α) (j : Nat) : upd V i x j = if j = i then x else V j := id rfl
theorem useV_nil {nt : Nat} {env : Env} {V : Nat → D} : useV nt env V [] = [] := id rfl
theorem useV_cons {nt : Nat} {env : Env} {V : Nat → D} {u : Nat × Nat} {us : List (Nat × Nat)} : useV nt env V (u :: us) = (u.1, if u.2 < nt then look env u.2 else V (u.2 - nt)) :: useV nt env V us := id rfl
theorem goV_e {P : Program} {e : Env} {d : DI} {σ : St} {F : D → St → Prop} : goV P e d σ F = wantH (guardB e d.guard)
    (opH d.op (∃ f args Q, d.op = .call f args ∧ HCallD P (evX σ e f) (args.map (evX σ e)) σ Q ∧ ∀ x σ', Q x σ' → F x σ') (bindH (hstep σ (evX σ e) d.op) fun v σ' p => p ∧ F v σ'))
    (F .dead σ) := id rfl
theorem allD_nil {i : Nat} {F : Nat → DI → Prop} : allD i [] F = True := id rfl
theorem allD_cons {i : Nat} {d : DI} {D : List DI} {F : Nat → DI → Prop} : allD i (d :: D) F = (F i d ∧ allD (i + 1) D F) := id rfl
theorem dFinV_nil {V : Nat → D} {i : Nat} {e : Env} : dFinV V i [] e = e := id rfl
theorem dFinV_some {V : Nat → D} {i t : Nat} {g : Option (Nat × Bool)} {op : HO} {us : List (Nat × Nat)} {ef : Bool} {lo hi an : Nat} {D : List DI} {e : Env} : dFinV V i (⟨some t, g, op, us, ef, lo, hi, an⟩ :: D) e = dFinV V (i + 1) D (putE e t (V i)) := id rfl
theorem dFinV_none {V : Nat → D} {i : Nat} {g : Option (Nat × Bool)} {op : HO} {us : List (Nat × Nat)} {ef : Bool} {lo hi an : Nat} {D : List DI} {e : Env} : dFinV V i (⟨none, g, op, us, ef, lo, hi, an⟩ :: D) e = dFinV V (i + 1) D e := id rfl

theorem Ext.trans {a b c : St} (h : Ext a b) (k : Ext b c) : Ext a c :=
  ⟨Nat.le_trans h.next k.next, fun id hl => by rw [k.obj id (Nat.lt_of_lt_of_le hl h.next), h.obj id hl], by rw [k.glob, h.glob]⟩

def allW (env : Env) : Env → Prop
  | [] => True
  | (t, d) :: r => (∀ (g : G) (w : World) (v : Value), R g w (look env t) v → R g w d v) ∧ allW env r

theorem allW.look {env : Env} : ∀ {env' : Env}, allW env env' → ∀ (g : G) (w : World) (t : Nat) (v : Value), R g w (look env t) v → R g w (look env' t) v
  | [], _, g, w, t, v, _ => by simp only [Go.Hl.look, R]
  | (s, d) :: r, h, g, w, t, v, hr => by
    simp only [Go.Hl.look]
    split
    · rename_i e
      subst e
      exact h.1 g w v hr
    · exact allW.look h.2 g w t v hr

end Go.Hl
set_option maxRecDepth 100000
namespace Go.Hl
open Go

theorem simpS : (type_of% @hgo_zero) ∧ ((type_of% @hgo_nil) ∧ ((type_of% @hgo_inBlock) ∧ ((type_of% @hgo_stop) ∧ ((type_of% @hgo_skip) ∧ ((type_of% @hgo_ret) ∧ ((type_of% @hgo_seq) ∧ ((type_of% @hgo_block) ∧ ((type_of% @hgo_ops) ∧ ((type_of% @hgo_cond) ∧ ((type_of% @hgo_exit) ∧ ((type_of% @hgo_loop) ∧ ((type_of% @hgo_draw) ∧ ((type_of% @hgo_range) ∧ ((type_of% @hgo_ops_nil) ∧ ((type_of% @hgo_kill) ∧ ((type_of% @hgo_call) ∧ ((type_of% @hgo_eqSl) ∧ ((type_of% @beq_tf) ∧ ((type_of% @beq_ft) ∧ ((type_of% @beq_tt) ∧ ((type_of% @beq_ff) ∧ ((type_of% @gdE_none) ∧ ((type_of% @gdE_some) ∧ ((type_of% @gdW_none) ∧ ((type_of% @gdW_some) ∧ ((type_of% @gdK_none) ∧ ((type_of% @gdK_t) ∧ ((type_of% @gdK_f) ∧ ((type_of% @gdK_dead) ∧ ((type_of% @hgo_refuse) ∧ ((type_of% @hgo_op) ∧ ((type_of% @hgo_gop) ∧ ((type_of% @condH_step) ∧ ((type_of% @condJ_bool) ∧ ((type_of% @exitH_some) ∧ ((type_of% @exitH_none) ∧ ((type_of% @bindH_some) ∧ ((type_of% @guardH_bool) ∧ ((type_of% @guardH_dead) ∧ ((type_of% @grpH_some) ∧ ((type_of% @grpH_none) ∧ ((type_of% @notCall_mv) ∧ ((type_of% @notCall_pick) ∧ ((type_of% @notCall_alloc) ∧ ((type_of% @notCall_box) ∧ ((type_of% @notCall_build) ∧ ((type_of% @notCall_bslice) ∧ ((type_of% @notCall_bvec) ∧ ((type_of% @notCall_vslice) ∧ ((type_of% @notCall_vappend) ∧ ((type_of% @notCall_load) ∧ ((type_of% @notCall_store) ∧ ((type_of% @notCall_nilck) ∧ ((type_of% @notCall_bin) ∧ ((type_of% @notCall_eqBool) ∧ ((type_of% @notCall_eqPtr) ∧ ((type_of% @notCall_eqIf) ∧ ((type_of% @notCall_not) ∧ ((type_of% @notCall_neg) ∧ ((type_of% @notCall_convI) ∧ ((type_of% @notCall_mkif) ∧ ((type_of% @notCall_mkfn) ∧ ((type_of% @notCall_slice) ∧ ((type_of% @notCall_sliceS) ∧ ((type_of% @notCall_cut) ∧ ((type_of% @notCall_faddr) ∧ ((type_of% @notCall_field) ∧ ((type_of% @notCall_iaddr) ∧ ((type_of% @notCall_aaddr) ∧ ((type_of% @notCall_aidx) ∧ ((type_of% @notCall_index) ∧ ((type_of% @notCall_extract) ∧ ((type_of% @notCall_len) ∧ ((type_of% @notCall_lenS) ∧ ((type_of% @notCall_append) ∧ ((type_of% @notCall_allocT) ∧ ((type_of% @notCall_convU) ∧ ((type_of% @notCall_convT) ∧ ((type_of% @notCall_usd) ∧ ((type_of% @notCall_ustr) ∧ ((type_of% @notCall_mm) ∧ ((type_of% @notCall_assertT) ∧ ((type_of% @notCall_sliceA) ∧ ((type_of% @notCall_eqAgg) ∧ ((type_of% @notCall_bstr) ∧ ((type_of% @hone_e) ∧ ((type_of% @hgrp_eq) ∧ ((type_of% @hgrpK_pick) ∧ ((type_of% @runG_nil) ∧ ((type_of% @runG_kill) ∧ ((type_of% @runG_kill_stop) ∧ ((type_of% @runG_step) ∧ ((type_of% @runG_opp) ∧ ((type_of% @runG_free) ∧ ((type_of% @runG_eff) ∧ ((type_of% @runG_other) ∧ ((type_of% @runG_nest) ∧ ((type_of% @bindG_some) ∧ ((type_of% @addG_some) ∧ ((type_of% @nestL_bool) ∧ ((type_of% @nestK_pick) ∧ ((type_of% @isKill_mv) ∧ ((type_of% @isKill_pick) ∧ ((type_of% @isKill_alloc) ∧ ((type_of% @isKill_box) ∧ ((type_of% @isKill_build) ∧ ((type_of% @isKill_bslice) ∧ ((type_of% @isKill_bvec) ∧ ((type_of% @isKill_vslice) ∧ ((type_of% @isKill_vappend) ∧ ((type_of% @isKill_load) ∧ ((type_of% @isKill_store) ∧ ((type_of% @isKill_nilck) ∧ ((type_of% @isKill_bin) ∧ ((type_of% @isKill_eqBool) ∧ ((type_of% @isKill_eqPtr) ∧ ((type_of% @isKill_eqIf) ∧ ((type_of% @isKill_not) ∧ ((type_of% @isKill_neg) ∧ ((type_of% @isKill_convI) ∧ ((type_of% @isKill_mkif) ∧ ((type_of% @isKill_mkfn) ∧ ((type_of% @isKill_slice) ∧ ((type_of% @isKill_sliceS) ∧ ((type_of% @isKill_cut) ∧ ((type_of% @isKill_faddr) ∧ ((type_of% @isKill_field) ∧ ((type_of% @isKill_iaddr) ∧ ((type_of% @isKill_aaddr) ∧ ((type_of% @isKill_aidx) ∧ ((type_of% @isKill_index) ∧ ((type_of% @isKill_extract) ∧ ((type_of% @isKill_len) ∧ ((type_of% @isKill_lenS) ∧ ((type_of% @isKill_append) ∧ ((type_of% @isKill_allocT) ∧ ((type_of% @isKill_convU) ∧ ((type_of% @isKill_convT) ∧ ((type_of% @isKill_usd) ∧ ((type_of% @isKill_ustr) ∧ ((type_of% @isKill_mm) ∧ ((type_of% @isKill_assertT) ∧ ((type_of% @isKill_sliceA) ∧ ((type_of% @isKill_eqAgg) ∧ ((type_of% @isKill_bstr) ∧ ((type_of% @isKill_eqSl) ∧ ((type_of% @isKill_call) ∧ ((type_of% @pickV_e) ∧ ((type_of% @delN_e1) ∧ ((type_of% @delN_e2) ∧ ((type_of% @delsN_e1) ∧ ((type_of% @delsN_e2) ∧ ((type_of% @addB_e) ∧ ((type_of% @hstep_e) ∧ ((type_of% @hval_e) ∧ ((type_of% @evX_e) ∧ ((type_of% @look_e1) ∧ ((type_of% @look_e2) ∧ ((type_of% @putO_e) ∧ ((type_of% @putE_e1) ∧ ((type_of% @putE_e2) ∧ ((type_of% @killsE_e1) ∧ ((type_of% @killsE_e2) ∧ ((type_of% @killE_e1) ∧ ((type_of% @killE_e2) ∧ ((type_of% @cellsD_bool) ∧ ((type_of% @cellsD_int) ∧ ((type_of% @cellsD_str) ∧ ((type_of% @cellsD_nilp) ∧ ((type_of% @cellsD_ptr) ∧ ((type_of% @cellsD_eptr) ∧ ((type_of% @cellsD_slice) ∧ ((type_of% @cellsD_func) ∧ ((type_of% @cellsD_yld) ∧ ((type_of% @cellsD_nilf) ∧ ((type_of% @cellsD_iface) ∧ ((type_of% @cellsD_nili) ∧ ((type_of% @cellsD_vec) ∧ ((type_of% @cellsD_vptr) ∧ ((type_of% @cellsD_sptr) ∧ ((type_of% @cellsD_agg) ∧ ((type_of% @rdD_e) ∧ ((type_of% @binD_e) ∧ ((type_of% @storeD_e) ∧ ((type_of% @buildD_e1) ∧ ((type_of% @buildD_e2) ∧ ((type_of% @fillD_e1) ∧ ((type_of% @fillD_e2) ∧ ((type_of% @wrD_e) ∧ ((type_of% @boundD_e) ∧ ((type_of% @sliceD_e) ∧ ((type_of% @sliceSD_e) ∧ ((type_of% @appendD_e) ∧ ((type_of% @usdD_e) ∧ ((type_of% @ustrD_e) ∧ ((type_of% @nilEqD_e) ∧ ((type_of% @Bool.false_xor) ∧ ((type_of% @Bool.true_xor) ∧ ((type_of% @Bool.xor_false) ∧ ((type_of% @Bool.xor_true) ∧ ((type_of% @Bool.true_and) ∧ ((type_of% @Bool.false_and) ∧ ((type_of% @Bool.and_true) ∧ ((type_of% @Bool.and_false) ∧ ((type_of% @Bool.true_or) ∧ ((type_of% @Bool.false_or) ∧ ((type_of% @Bool.or_true) ∧ ((type_of% @Bool.or_false) ∧ ((type_of% @vsliceD_e) ∧ ((type_of% @vappendD_e) ∧ ((type_of% @ifEqD_e) ∧ ((type_of% @eqCells_e1) ∧ ((type_of% @eqCells_e2) ∧ ((type_of% @eqCells_e3) ∧ ((type_of% @eqCells_e4) ∧ ((type_of% @srcD_e) ∧ ((type_of% @St.obj_new) ∧ ((type_of% @St.next_new) ∧ ((type_of% @St.obj_put) ∧ ((type_of% @St.next_put) ∧ ((type_of% @St.obj_newAt) ∧ ((type_of% @St.next_newAt) ∧ ((type_of% @St.obj_bump) ∧ ((type_of% @St.next_bump) ∧ ((type_of% @St.put_new) ∧ ((type_of% @St.put_newAt) ∧ ((type_of% @St.put_put) ∧ ((type_of% @St.put_bump) ∧ ((type_of% @mix_next) ∧ ((type_of% @mix_obj) ∧ ((type_of% @mix_new) ∧ ((type_of% @mix_put) ∧ ((type_of% @Nat.lt_add_right_iff_pos) ∧ ((type_of% @Nat.add_lt_add_iff_left) ∧ ((type_of% @Nat.lt_irrefl) ∧ ((type_of% @hexit_e1) ∧ ((type_of% @hexit_e2) ∧ ((type_of% @hexit_e3) ∧ ((type_of% @Nat.zero_add) ∧ ((type_of% @Nat.add_zero) ∧ ((type_of% @Nat.add_assoc) ∧ ((type_of% @Nat.add_eq_left) ∧ ((type_of% @Nat.left_eq_add) ∧ ((type_of% @Nat.add_left_cancel_iff) ∧ ((type_of% @true_and) ∧ ((type_of% @Bool.not_true) ∧ ((type_of% @Bool.not_false) ∧ ((type_of% @or_self) ∧ ((type_of% @or_false) ∧ ((type_of% @false_or) ∧ ((type_of% @or_true) ∧ ((type_of% @true_or) ∧ ((type_of% @ite_bool) ∧ ((type_of% @ite_int) ∧ ((type_of% @ite_str) ∧ ((type_of% @imp_self) ∧ ((type_of% @and_true) ∧ ((type_of% @Bool.true_eq_false) ∧ ((type_of% @Bool.false_eq_true) ∧ ((type_of% @false_imp_iff) ∧ ((type_of% @and_self) ∧ ((type_of% @and_false) ∧ ((type_of% @false_and) ∧ ((type_of% @not_false_eq_true) ∧ ((type_of% @not_true_eq_false) ∧ ((type_of% @decide_true) ∧ ((type_of% @decide_false) ∧ ((type_of% @Nat.le_refl) ∧ ((type_of% @Nat.lt_add_one) ∧ (type_of% @Nat.zero_lt_succ)))))))))))))))))))))))))))))))))))))))))))))))))))))))))))))))))))))))))))))))))))))))))))))))))))))))))))))))))))))))))))))))))))))))))))))))))))))))))))))))))))))))))))))))))))))))))))))))))))))))))))))))))))))))))))))))))))))))))))))))))))))))))))))))))))))))))))))) :=
  ⟨@hgo_zero, ⟨@hgo_nil, ⟨@hgo_inBlock, ⟨@hgo_stop, ⟨@hgo_skip, ⟨@hgo_ret, ⟨@hgo_seq, ⟨@hgo_block, ⟨@hgo_ops, ⟨@hgo_cond, ⟨@hgo_exit, ⟨@hgo_loop, ⟨@hgo_draw, ⟨@hgo_range, ⟨@hgo_ops_nil, ⟨@hgo_kill, ⟨@hgo_call, ⟨@hgo_eqSl, ⟨@beq_tf, ⟨@beq_ft, ⟨@beq_tt, ⟨@beq_ff, ⟨@gdE_none, ⟨@gdE_some, ⟨@gdW_none, ⟨@gdW_some, ⟨@gdK_none, ⟨@gdK_t, ⟨@gdK_f, ⟨@gdK_dead, ⟨@hgo_refuse, ⟨@hgo_op, ⟨@hgo_gop, ⟨@condH_step, ⟨@condJ_bool, ⟨@exitH_some, ⟨@exitH_none, ⟨@bindH_some, ⟨@guardH_bool, ⟨@guardH_dead, ⟨@grpH_some, ⟨@grpH_none, ⟨@notCall_mv, ⟨@notCall_pick, ⟨@notCall_alloc, ⟨@notCall_box, ⟨@notCall_build, ⟨@notCall_bslice, ⟨@notCall_bvec, ⟨@notCall_vslice, ⟨@notCall_vappend, ⟨@notCall_load, ⟨@notCall_store, ⟨@notCall_nilck, ⟨@notCall_bin, ⟨@notCall_eqBool, ⟨@notCall_eqPtr, ⟨@notCall_eqIf, ⟨@notCall_not, ⟨@notCall_neg, ⟨@notCall_convI, ⟨@notCall_mkif, ⟨@notCall_mkfn, ⟨@notCall_slice, ⟨@notCall_sliceS, ⟨@notCall_cut, ⟨@notCall_faddr, ⟨@notCall_field, ⟨@notCall_iaddr, ⟨@notCall_aaddr, ⟨@notCall_aidx, ⟨@notCall_index, ⟨@notCall_extract, ⟨@notCall_len, ⟨@notCall_lenS, ⟨@notCall_append, ⟨@notCall_allocT, ⟨@notCall_convU, ⟨@notCall_convT, ⟨@notCall_usd, ⟨@notCall_ustr, ⟨@notCall_mm, ⟨@notCall_assertT, ⟨@notCall_sliceA, ⟨@notCall_eqAgg, ⟨@notCall_bstr, ⟨@hone_e, ⟨@hgrp_eq, ⟨@hgrpK_pick, ⟨@runG_nil, ⟨@runG_kill, ⟨@runG_kill_stop, ⟨@runG_step, ⟨@runG_opp, ⟨@runG_free, ⟨@runG_eff, ⟨@runG_other, ⟨@runG_nest, ⟨@bindG_some, ⟨@addG_some, ⟨@nestL_bool, ⟨@nestK_pick, ⟨@isKill_mv, ⟨@isKill_pick, ⟨@isKill_alloc, ⟨@isKill_box, ⟨@isKill_build, ⟨@isKill_bslice, ⟨@isKill_bvec, ⟨@isKill_vslice, ⟨@isKill_vappend, ⟨@isKill_load, ⟨@isKill_store, ⟨@isKill_nilck, ⟨@isKill_bin, ⟨@isKill_eqBool, ⟨@isKill_eqPtr, ⟨@isKill_eqIf, ⟨@isKill_not, ⟨@isKill_neg, ⟨@isKill_convI, ⟨@isKill_mkif, ⟨@isKill_mkfn, ⟨@isKill_slice, ⟨@isKill_sliceS, ⟨@isKill_cut, ⟨@isKill_faddr, ⟨@isKill_field, ⟨@isKill_iaddr, ⟨@isKill_aaddr, ⟨@isKill_aidx, ⟨@isKill_index, ⟨@isKill_extract, ⟨@isKill_len, ⟨@isKill_lenS, ⟨@isKill_append, ⟨@isKill_allocT, ⟨@isKill_convU, ⟨@isKill_convT, ⟨@isKill_usd, ⟨@isKill_ustr, ⟨@isKill_mm, ⟨@isKill_assertT, ⟨@isKill_sliceA, ⟨@isKill_eqAgg, ⟨@isKill_bstr, ⟨@isKill_eqSl, ⟨@isKill_call, ⟨@pickV_e, ⟨@delN_e1, ⟨@delN_e2, ⟨@delsN_e1, ⟨@delsN_e2, ⟨@addB_e, ⟨@hstep_e, ⟨@hval_e, ⟨@evX_e, ⟨@look_e1, ⟨@look_e2, ⟨@putO_e, ⟨@putE_e1, ⟨@putE_e2, ⟨@killsE_e1, ⟨@killsE_e2, ⟨@killE_e1, ⟨@killE_e2, ⟨@cellsD_bool, ⟨@cellsD_int, ⟨@cellsD_str, ⟨@cellsD_nilp, ⟨@cellsD_ptr, ⟨@cellsD_eptr, ⟨@cellsD_slice, ⟨@cellsD_func, ⟨@cellsD_yld, ⟨@cellsD_nilf, ⟨@cellsD_iface, ⟨@cellsD_nili, ⟨@cellsD_vec, ⟨@cellsD_vptr, ⟨@cellsD_sptr, ⟨@cellsD_agg, ⟨@rdD_e, ⟨@binD_e, ⟨@storeD_e, ⟨@buildD_e1, ⟨@buildD_e2, ⟨@fillD_e1, ⟨@fillD_e2, ⟨@wrD_e, ⟨@boundD_e, ⟨@sliceD_e, ⟨@sliceSD_e, ⟨@appendD_e, ⟨@usdD_e, ⟨@ustrD_e, ⟨@nilEqD_e, ⟨@Bool.false_xor, ⟨@Bool.true_xor, ⟨@Bool.xor_false, ⟨@Bool.xor_true, ⟨@Bool.true_and, ⟨@Bool.false_and, ⟨@Bool.and_true, ⟨@Bool.and_false, ⟨@Bool.true_or, ⟨@Bool.false_or, ⟨@Bool.or_true, ⟨@Bool.or_false, ⟨@vsliceD_e, ⟨@vappendD_e, ⟨@ifEqD_e, ⟨@eqCells_e1, ⟨@eqCells_e2, ⟨@eqCells_e3, ⟨@eqCells_e4, ⟨@srcD_e, ⟨@St.obj_new, ⟨@St.next_new, ⟨@St.obj_put, ⟨@St.next_put, ⟨@St.obj_newAt, ⟨@St.next_newAt, ⟨@St.obj_bump, ⟨@St.next_bump, ⟨@St.put_new, ⟨@St.put_newAt, ⟨@St.put_put, ⟨@St.put_bump, ⟨@mix_next, ⟨@mix_obj, ⟨@mix_new, ⟨@mix_put, ⟨@Nat.lt_add_right_iff_pos, ⟨@Nat.add_lt_add_iff_left, ⟨@Nat.lt_irrefl, ⟨@hexit_e1, ⟨@hexit_e2, ⟨@hexit_e3, ⟨@Nat.zero_add, ⟨@Nat.add_zero, ⟨@Nat.add_assoc, ⟨@Nat.add_eq_left, ⟨@Nat.left_eq_add, ⟨@Nat.add_left_cancel_iff, ⟨@true_and, ⟨@Bool.not_true, ⟨@Bool.not_false, ⟨@or_self, ⟨@or_false, ⟨@false_or, ⟨@or_true, ⟨@true_or, ⟨@ite_bool, ⟨@ite_int, ⟨@ite_str, ⟨@imp_self, ⟨@and_true, ⟨@Bool.true_eq_false, ⟨@Bool.false_eq_true, ⟨@false_imp_iff, ⟨@and_self, ⟨@and_false, ⟨@false_and, ⟨@not_false_eq_true, ⟨@not_true_eq_false, ⟨@decide_true, ⟨@decide_false, ⟨@Nat.le_refl, ⟨@Nat.lt_add_one, @Nat.zero_lt_succ⟩⟩⟩⟩⟩⟩⟩⟩⟩⟩⟩⟩⟩⟩⟩⟩⟩⟩⟩⟩⟩⟩⟩⟩⟩⟩⟩⟩⟩⟩⟩⟩⟩⟩⟩⟩⟩⟩⟩⟩⟩⟩⟩⟩⟩⟩⟩⟩⟩⟩⟩⟩⟩⟩⟩⟩⟩⟩⟩⟩⟩⟩⟩⟩⟩⟩⟩⟩⟩⟩⟩⟩⟩⟩⟩⟩⟩⟩⟩⟩⟩⟩⟩⟩⟩⟩⟩⟩⟩⟩⟩⟩⟩⟩⟩⟩⟩⟩⟩⟩⟩⟩⟩⟩⟩⟩⟩⟩⟩⟩⟩⟩⟩⟩⟩⟩⟩⟩⟩⟩⟩⟩⟩⟩⟩⟩⟩⟩⟩⟩⟩⟩⟩⟩⟩⟩⟩⟩⟩⟩⟩⟩⟩⟩⟩⟩⟩⟩⟩⟩⟩⟩⟩⟩⟩⟩⟩⟩⟩⟩⟩⟩⟩⟩⟩⟩⟩⟩⟩⟩⟩⟩⟩⟩⟩⟩⟩⟩⟩⟩⟩⟩⟩⟩⟩⟩⟩⟩⟩⟩⟩⟩⟩⟩⟩⟩⟩⟩⟩⟩⟩⟩⟩⟩⟩⟩⟩⟩⟩⟩⟩⟩⟩⟩⟩⟩⟩⟩⟩⟩⟩⟩⟩⟩⟩⟩⟩⟩⟩⟩⟩⟩⟩⟩⟩⟩⟩⟩⟩⟩⟩⟩⟩⟩⟩⟩⟩⟩⟩⟩⟩⟩⟩⟩⟩⟩⟩⟩⟩⟩⟩⟩⟩⟩⟩⟩⟩⟩⟩⟩

theorem drawS : (type_of% @hdgo_zero) ∧ ((type_of% @hdgo_succ) ∧ ((type_of% @runH_some) ∧ ((type_of% @effH_some) ∧ ((type_of% @effH_none) ∧ ((type_of% @diH_some) ∧ ((type_of% @wantH_true) ∧ ((type_of% @wantH_false) ∧ ((type_of% @opH_go) ∧ ((type_of% @opH_call) ∧ ((type_of% @dOne_e) ∧ ((type_of% @guardB_e) ∧ ((type_of% @envI_e) ∧ ((type_of% @dRun_e1) ∧ ((type_of% @dRun_e2) ∧ ((type_of% @dOk_e1) ∧ ((type_of% @dOk_e2) ∧ ((type_of% @dFin_e1) ∧ ((type_of% @dFin_e2) ∧ ((type_of% @lowE_e1) ∧ ((type_of% @lowE_e2) ∧ ((type_of% @effsFrom_e1) ∧ ((type_of% @effsFrom_e2) ∧ (type_of% @Nat.zero_le))))))))))))))))))))))) :=
  ⟨@hdgo_zero, ⟨@hdgo_succ, ⟨@runH_some, ⟨@effH_some, ⟨@effH_none, ⟨@diH_some, ⟨@wantH_true, ⟨@wantH_false, ⟨@opH_go, ⟨@opH_call, ⟨@dOne_e, ⟨@guardB_e, ⟨@envI_e, ⟨@dRun_e1, ⟨@dRun_e2, ⟨@dOk_e1, ⟨@dOk_e2, ⟨@dFin_e1, ⟨@dFin_e2, ⟨@lowE_e1, ⟨@lowE_e2, ⟨@effsFrom_e1, ⟨@effsFrom_e2, @Nat.zero_le⟩⟩⟩⟩⟩⟩⟩⟩⟩⟩⟩⟩⟩⟩⟩⟩⟩⟩⟩⟩⟩⟩⟩

theorem dsetS : (type_of% @goV_e) ∧ ((type_of% @wantH_true) ∧ ((type_of% @wantH_false) ∧ ((type_of% @opH_go) ∧ ((type_of% @opH_call) ∧ ((type_of% @guardB_e) ∧ ((type_of% @useV_nil) ∧ ((type_of% @useV_cons) ∧ ((type_of% @allD_nil) ∧ ((type_of% @allD_cons) ∧ ((type_of% @dFinV_nil) ∧ ((type_of% @dFinV_some) ∧ ((type_of% @dFinV_none) ∧ ((type_of% @lowE_e1) ∧ ((type_of% @lowE_e2) ∧ ((type_of% @Nat.zero_le) ∧ (type_of% @upd_e)))))))))))))))) :=
  ⟨@goV_e, ⟨@wantH_true, ⟨@wantH_false, ⟨@opH_go, ⟨@opH_call, ⟨@guardB_e, ⟨@useV_nil, ⟨@useV_cons, ⟨@allD_nil, ⟨@allD_cons, ⟨@dFinV_nil, ⟨@dFinV_some, ⟨@dFinV_none, ⟨@lowE_e1, ⟨@lowE_e2, ⟨@Nat.zero_le, @upd_e⟩⟩⟩⟩⟩⟩⟩⟩⟩⟩⟩⟩⟩⟩⟩⟩

theorem listS : (type_of% @List.getD_cons_zero.{0}) ∧ ((type_of% @List.getD_cons_succ.{0}) ∧ ((type_of% @List.length_cons.{0}) ∧ ((type_of% @List.length_nil.{0}) ∧ ((type_of% @List.mem_cons.{0}) ∧ ((type_of% @List.not_mem_nil.{0}) ∧ ((type_of% @List.mem_append.{0}) ∧ ((type_of% @List.nil_append.{0}) ∧ ((type_of% @List.cons_append.{0}) ∧ ((type_of% @List.append_nil.{0}) ∧ ((type_of% @List.take_succ_cons.{0}) ∧ ((type_of% @List.take_zero.{0}) ∧ ((type_of% @List.drop_succ_cons.{0}) ∧ ((type_of% @List.drop_zero.{0}) ∧ ((type_of% @List.set_cons_zero.{0}) ∧ ((type_of% @List.set_cons_succ.{0}) ∧ ((type_of% @List.map_cons.{0, 0}) ∧ ((type_of% @List.map_nil.{0, 0}) ∧ ((type_of% @Option.map_some.{0, 0}) ∧ ((type_of% @Option.map_none.{0, 0}) ∧ ((type_of% @beq_self_eq_true.{0}) ∧ ((type_of% @bne_self_eq_false.{0}) ∧ ((type_of% @if_true.{1}) ∧ (type_of% @if_false.{1}))))))))))))))))))))))) :=
  ⟨@List.getD_cons_zero.{0}, ⟨@List.getD_cons_succ.{0}, ⟨@List.length_cons.{0}, ⟨@List.length_nil.{0}, ⟨@List.mem_cons.{0}, ⟨@List.not_mem_nil.{0}, ⟨@List.mem_append.{0}, ⟨@List.nil_append.{0}, ⟨@List.cons_append.{0}, ⟨@List.append_nil.{0}, ⟨@List.take_succ_cons.{0}, ⟨@List.take_zero.{0}, ⟨@List.drop_succ_cons.{0}, ⟨@List.drop_zero.{0}, ⟨@List.set_cons_zero.{0}, ⟨@List.set_cons_succ.{0}, ⟨@List.map_cons.{0, 0}, ⟨@List.map_nil.{0, 0}, ⟨@Option.map_some.{0, 0}, ⟨@Option.map_none.{0, 0}, ⟨@beq_self_eq_true.{0}, ⟨@bne_self_eq_false.{0}, ⟨@if_true.{1}, @if_false.{1}⟩⟩⟩⟩⟩⟩⟩⟩⟩⟩⟩⟩⟩⟩⟩⟩⟩⟩⟩⟩⟩⟩⟩

theorem noneS : (type_of% @bindG_none) ∧ ((type_of% @addG_none) ∧ ((type_of% @hgrpK_none) ∧ ((type_of% @nestK_none) ∧ (type_of% @hgrpK_guarded)))) :=
  ⟨@bindG_none, ⟨@addG_none, ⟨@hgrpK_none, ⟨@nestK_none, @hgrpK_guarded⟩⟩⟩⟩

end Go.Hl
set_option linter.unusedSectionVars false
set_option linter.unusedVariables false
set_option linter.unusedSimpArgs false
set_option maxRecDepth 100000
namespace Go.Hl
open Go Go.Proofs

abbrev byD (b : UInt8) : D := .int .u8 (b.toNat : Int)

def isLet (b : UInt8) : Bool := decide (97 ≤ b.toNat ∧ b.toNat ≤ 122) || decide (65 ≤ b.toNat ∧ b.toNat ≤ 90) || decide (b.toNat = 95)
def isFig (b : UInt8) : Bool := decide (48 ≤ b.toNat ∧ b.toNat ≤ 57)
def isBlk (b : UInt8) : Bool := decide (b.toNat = 9) || decide (b.toNat = 10) || decide (b.toNat = 13) || decide (b.toNat = 32)

theorem letter_calls (b : UInt8) (σ : St) : HCalls Tryd.prog 58 [byD b] σ (fun d σ' => d = .bool (isLet b) ∧ σ' = σ) := by
  refine hcalls_body (fn := Tryd.f58) rfl c58 (by simp [h58]) (by simp [h58, Tryd.f58]) ?_
  intro M hP hr hnt hnx hwf hlt
  simp only [h58, argEnv]
  refine hgo_sound 60 ?_
  simp -implicitDefEqProofs (maxSteps := 1000000) only [simpS, ↓condJ_true, ↓condJ_false, ↓reduceIte, Nat.reduceEqDiff, Nat.reduceLT, Nat.reduceLeDiff, reduceCtorEq, Nat.reduceAdd, Nat.reduceSub, noneS, listS, implies_true, forall_const, ne_eq]
  refine fpost_pure (σ0 := σ) (.inr rfl) (by rw [hnx]; exact Nat.le_refl _) hwf (Sub.refl σ) rfl trivial trivial ⟨congrArg D.bool (?_ : _ = isLet b), rfl⟩
  have h := b.toNat_lt
  unfold isLet
  generalize b.toNat = n at *
  revert n
  decide +kernel

theorem figure_calls (b : UInt8) (σ : St) : HCalls Tryd.prog 59 [byD b] σ (fun d σ' => d = .bool (isFig b) ∧ σ' = σ) := by
  refine hcalls_body (fn := Tryd.f59) rfl c59 (by simp [h59]) (by simp [h59, Tryd.f59]) ?_
  intro M hP hr hnt hnx hwf hlt
  simp only [h59, argEnv]
  refine hgo_sound 60 ?_
  simp -implicitDefEqProofs (maxSteps := 1000000) only [simpS, ↓condJ_true, ↓condJ_false, ↓reduceIte, Nat.reduceEqDiff, Nat.reduceLT, Nat.reduceLeDiff, reduceCtorEq, Nat.reduceAdd, Nat.reduceSub, noneS, listS, implies_true, forall_const, ne_eq]
  refine fpost_pure (σ0 := σ) (.inr rfl) (by rw [hnx]; exact Nat.le_refl _) hwf (Sub.refl σ) rfl trivial trivial ⟨congrArg D.bool (?_ : _ = isFig b), rfl⟩
  have h := b.toNat_lt
  unfold isFig
  generalize b.toNat = n at *
  revert n
  decide +kernel

theorem inside_calls (b : UInt8) (σ : St) : HCalls Tryd.prog 70 [byD b] σ (fun d σ' => d = .bool (isLet b || isFig b) ∧ σ' = σ) := by
  refine hcalls_body (fn := Tryd.f70) rfl c70 (by simp [h70]) (by simp [h70, Tryd.f70]) ?_
  intro M hP hr hnt hnx hwf hlt
  simp only [h70, argEnv]
  refine hgo_sound 60 ?_
  simp -implicitDefEqProofs (maxSteps := 1000000) only [simpS, ↓condJ_true, ↓condJ_false, ↓reduceIte, Nat.reduceEqDiff, Nat.reduceLT, Nat.reduceLeDiff, reduceCtorEq, Nat.reduceAdd, Nat.reduceSub, noneS, listS, implies_true, forall_const, ne_eq]
  refine hx_call (f := .fn 58) rfl (by rw [hP]; exact hcallD_func (letter_calls b _)) ?_
  rintro _ σ2 ⟨rfl, h⟩
  subst σ2
  cases h1 : isLet b
  · refine hgo_sound 60 ?_
    simp -implicitDefEqProofs (maxSteps := 1000000) only [simpS, ↓condJ_true, ↓condJ_false, ↓reduceIte, Nat.reduceEqDiff, Nat.reduceLT, Nat.reduceLeDiff, reduceCtorEq, Nat.reduceAdd, Nat.reduceSub, noneS, listS, implies_true, forall_const, ne_eq]
    refine hx_call (f := .fn 59) rfl (by rw [hP]; exact hcallD_func (figure_calls b _)) ?_
    rintro _ σ2 ⟨rfl, h⟩
    subst σ2
    refine hgo_sound 60 ?_
    simp -implicitDefEqProofs (maxSteps := 1000000) only [simpS, ↓condJ_true, ↓condJ_false, ↓reduceIte, Nat.reduceEqDiff, Nat.reduceLT, Nat.reduceLeDiff, reduceCtorEq, Nat.reduceAdd, Nat.reduceSub, noneS, listS, implies_true, forall_const, ne_eq]
    exact fpost_pure (σ0 := σ) (.inr rfl) (by rw [hnx]; exact Nat.le_refl _) hwf (Sub.refl σ) rfl trivial trivial ⟨by simp [tupD, look], rfl⟩
  · refine hgo_sound 60 ?_
    simp -implicitDefEqProofs (maxSteps := 1000000) only [simpS, ↓condJ_true, ↓condJ_false, ↓reduceIte, Nat.reduceEqDiff, Nat.reduceLT, Nat.reduceLeDiff, reduceCtorEq, Nat.reduceAdd, Nat.reduceSub, noneS, listS, implies_true, forall_const, ne_eq]
    exact fpost_pure (σ0 := σ) (.inr rfl) (by rw [hnx]; exact Nat.le_refl _) hwf (Sub.refl σ) rfl trivial trivial ⟨by simp [tupD, look], rfl⟩

def runTo (p : UInt8 → Bool) : List UInt8 → Nat
  | [] => 0
  | b :: bs => if p b then runTo p bs + 1 else 0

structure RnS where
  j : Nat

def runFrom (s : ByteArray) (at_ : Int) : Nat := (min (max at_ 0) (s.size : Int)).toNat
theorem runFrom_le (s : ByteArray) (at_ : Int) : runFrom s at_ ≤ s.size ∧ (runFrom s at_ : Int) = min (max at_ 0) (s.size : Int) := by unfold runFrom; omega
def runAt (p : UInt8 → Bool) (s : ByteArray) (at_ : Int) : Int := ((runFrom s at_ + runTo p (s.data.toList.drop (runFrom s at_)) : Nat) : Int)

theorem byte_at (s : ByteArray) (j : Nat) (h : j < s.size) : ((s.data.getD j 0).toNat : Int) = ((s.data.toList[j]'(by simpa using h)).toNat : Int) := by
  simp [Array.getD, h, show j < s.data.size from h]

theorem drop_cons (s : ByteArray) (j : Nat) (h : j < s.size) : s.data.toList.drop j = s.data.toList[j]'(by simpa using h) :: s.data.toList.drop (j + 1) := List.drop_eq_getElem_cons (by simpa using h)

theorem run_calls (s : ByteArray) (hs : s.size ≤ 140737488355328) (at_ : Int) (f : Nat) (p : UInt8 → Bool) (H : ∀ b σ, HCalls Tryd.prog f [byD b] σ (fun d σ' => d = .bool (p b) ∧ σ' = σ)) (σ : St) :
    HCalls Tryd.prog 46 [.str s, .int .i64 at_, .func f []] σ (fun d σ' => d = .int .i64 (runAt p s at_) ∧ σ' = σ) := by
  refine hcalls_body (fn := Tryd.f46) rfl c46 (by simp [h46]) (by simp [h46, Tryd.f46]) ?_
  intro M hP hr hnt hnx hwf hlt
  simp only [h46, argEnv]
  obtain ⟨q1, q2⟩ := runFrom_le s at_
  refine hgo_sound 60 ?_
  simp -implicitDefEqProofs (maxSteps := 1000000) only [simpS, ↓condJ_true, ↓condJ_false, ↓reduceIte, Nat.reduceEqDiff, Nat.reduceLT, Nat.reduceLeDiff, reduceCtorEq, Nat.reduceAdd, Nat.reduceSub, noneS, listS, implies_true, forall_const, ne_eq]
  refine hx_know_code fun hw hl1 hn1 => ?_
  refine hx_loop (S := RnS) (fun t => [(0, .str s), (1, .int .i64 t.j), (2, .func f [])]) (fun _ => σ)
    (fun t => t.j ≤ s.size ∧ ((t.j + runTo p (s.data.toList.drop t.j) : Nat) : Int) = runAt p s at_) (fun t => s.size - t.j) ⟨runFrom s at_⟩ ⟨q1, rfl⟩ (fun _ _ h => by rw [hr] at h; cases h) ?_ ?_
  · refine Drop.all hw hn1 ⟨⟨rfl, trivial⟩, ⟨?_, trivial⟩, ⟨rfl, trivial⟩, trivial⟩
    simp only [look, Nat.reduceEqDiff, if_false, if_true]
    refine congrArg (D.int .i64) ?_
    rw [q2]
    repeat' split
    all_goals omega
  rintro ⟨j⟩ ⟨j1, j4⟩
  simp only at j1 j4 ⊢
  by_cases hj : j < s.size
  · have hjd : decide (((j : Nat) : Int) < (s.size : Int)) = true := by simp [hj]
    have hjp : ((j : Nat) : Int) < (s.size : Int) := by omega
    have hb : ((s.data.getD j 0).toNat : Int) = (((s.data.toList[j]'(by simpa using hj)).toNat : Nat) : Int) := byte_at s j hj
    have hd := drop_cons s j hj
    rw [hd] at j4
    simp only [runTo] at j4
    have hwr : IntKind.i64.wrap ((j : Int) + 1) = ((j + 1 : Nat) : Int) := by rw [IntWalk.i64_in _ (by omega)]; rfl
    refine hgo_sound 60 ?_
    simp -implicitDefEqProofs (maxSteps := 1000000) only [simpS, ↓condJ_true, ↓condJ_false, ↓reduceIte, Nat.reduceEqDiff, Nat.reduceLT, Nat.reduceLeDiff, reduceCtorEq, Nat.reduceAdd, Nat.reduceSub, noneS, listS, implies_true, forall_const, ne_eq, hjd, hjp, Int.toNat_natCast, Int.natCast_nonneg, hb]
    refine hx_call rfl (by rw [hP]; exact hcallD_func (H _ _)) ?_
    rintro _ σ2 ⟨rfl, h⟩
    subst σ2
    by_cases hp : p (s.data.toList[j]'(by simpa using hj)) = true
    · rw [if_pos hp] at j4
      rw [hp]
      refine hgo_sound 60 ?_
      simp -implicitDefEqProofs (maxSteps := 1000000) only [simpS, ↓condJ_true, ↓condJ_false, ↓reduceIte, Nat.reduceEqDiff, Nat.reduceLT, Nat.reduceLeDiff, reduceCtorEq, Nat.reduceAdd, Nat.reduceSub, noneS, listS, implies_true, forall_const, ne_eq, hwr]
      intro hw2 hl2 hn2
      refine ⟨⟨j + 1⟩, ⟨by simp only; omega, by rw [← j4]; simp only; omega⟩, by simp only; omega, ?_⟩
      exact Drop.all hw2 hn2 ⟨⟨rfl, trivial⟩, ⟨rfl, trivial⟩, ⟨rfl, trivial⟩, trivial⟩
    · rw [if_neg hp, Nat.add_zero] at j4
      have hp' : p (s.data.toList[j]'(by simpa using hj)) = false := by simpa using hp
      rw [hp', ← j4]
      refine hgo_sound 60 ?_
      simp -implicitDefEqProofs (maxSteps := 1000000) only [simpS, ↓condJ_true, ↓condJ_false, ↓reduceIte, Nat.reduceEqDiff, Nat.reduceLT, Nat.reduceLeDiff, reduceCtorEq, Nat.reduceAdd, Nat.reduceSub, noneS, listS, implies_true, forall_const, ne_eq]
      exact fpost_pure (σ0 := σ) (.inr rfl) (by rw [hnx]; exact Nat.le_refl _) hwf (Sub.refl σ) rfl trivial trivial ⟨rfl, rfl⟩
  · have hjd : decide (((j : Nat) : Int) < (s.size : Int)) = false := by simp [hj]
    have hd : s.data.toList.drop j = [] := List.drop_eq_nil_of_le (by have : s.data.toList.length = s.size := (by simp); omega)
    rw [hd] at j4
    rw [← j4]
    refine hgo_sound 60 ?_
    simp -implicitDefEqProofs (maxSteps := 1000000) only [simpS, ↓condJ_true, ↓condJ_false, ↓reduceIte, Nat.reduceEqDiff, Nat.reduceLT, Nat.reduceLeDiff, reduceCtorEq, Nat.reduceAdd, Nat.reduceSub, noneS, listS, implies_true, forall_const, ne_eq, hjd]
    exact fpost_pure (σ0 := σ) (.inr rfl) (by rw [hnx]; exact Nat.le_refl _) hwf (Sub.refl σ) rfl trivial trivial ⟨rfl, rfl⟩

end Go.Hl
set_option linter.unusedVariables false
set_option linter.unusedSimpArgs false
namespace Go.Hl
open Go Go.RowKit

theorem hcalls_plain {P : Program} {f : Nat} {args : List D} {σ : St} {Q : D → St → Prop} (hb : hasBody P f = true)
    (h : ∀ g w vs, Rel P g σ w → RL g w args vs → Calls P f vs.toArray w fun e w' => ∃ v d, e = .returned v ∧ E g w g w' ∧ Rel P g σ w' ∧ R g w' d v ∧ Q d σ) : HCalls P f args σ Q := by
  intro g w vs hr hl
  rw [callFunc_has hb]
  refine CallsIn.mono (callsIn_wide.2 (h g w vs hr hl)) ?_
  rintro e w' ⟨v, d, rfl, hE, hR, hd, hq⟩
  exact ⟨d, g, σ, hE, hR, hd, hq⟩

theorem below_ER {P : Program} {g : G} {σ : St} {w w' : World} (hr : Rel P g σ w) (h : Below w.heap.size w w') : E g w g w' ∧ Rel P g σ w' :=
  ⟨E.of_heap hr.gw h.size h.block ⟨h.os, h.tape, h.output⟩, hr.of_heap h.size h.block ⟨h.os, h.tape, h.output⟩⟩

theorem freeze_heap (w : World) (a : Addr) (n : Nat) : (w.freeze a n).heap.size = w.heap.size ∧ (∀ k, k ≠ a.block → (w.freeze a n).heap[k]? = w.heap[k]?) ∧ OS w (w.freeze a n) := by
  unfold World.freeze
  split
  · exact ⟨rfl, fun _ _ => rfl, rfl, rfl, rfl⟩
  · refine ⟨by simp only [Array.size_modify], fun k hk => ?_, rfl, rfl, rfl⟩
    simp only
    rw [Array.getElem?_modify, if_neg (Ne.symm hk)]

theorem below_bytes (w : World) (e : Nat) (s : ByteArray) : Below w.heap.size w (Lib.bytesWorld w e s) := by
  unfold Lib.bytesWorld
  obtain ⟨h1, h2, h3⟩ := freeze_heap (w.drew.alloc (.cells (Lib.bytesCells w e s) e)) ⟨w.heap.size, (Lib.bytesCells w e s).size, none⟩ 1
  refine ⟨h3.os, h3.tape, h3.output, ?_, fun k hk => ?_⟩
  · rw [h1, World.size_alloc]
    exact Nat.le_succ _
  · rw [h2 k (by simp only; omega)]
    exact heap_oldH w.drew _ k hk

theorem GL.cell {g : G} {w : World} {cs : List D} {k : Nat} (h : GL g w cs k) {i : Nat} {d : D} (hd : cs[i]? = some d) : ∃ u, w.cell? ⟨k, i, none⟩ = some u ∧ R g w d u := by
  obtain ⟨⟨c, e, z, hh, hc⟩, _⟩ := h
  obtain ⟨u, hu, _, hr⟩ := hc.get hd
  exact ⟨u, cell_of_heap hh (by simpa using hu), hr⟩

theorem GL.ints {g : G} {w : World} {k : Nat} {kd : IntKind} {zs : List Int} (h : GL g w (zs.map fun z => .int kd z) k) : ∃ e z, w.heap[k]? = some (.cells (zs.map fun z => Value.int kd z).toArray e z) := by
  obtain ⟨⟨c, e, z, hh, hc⟩, _⟩ := h
  refine ⟨e, z, ?_⟩
  rw [hh]
  congr 2
  apply Array.ext'
  have hl := hc.length
  simp only [List.length_map] at hl
  refine List.ext_getElem (by simp [hl]) fun i h1 h2 => ?_
  have hi : i < zs.length := by simpa [hl] using h1
  obtain ⟨u, hu, _, hr⟩ := hc.get (i := i) (d := .int kd zs[i]) (by simp [hi])
  simp only [R] at hr
  subst hr
  rw [List.getElem?_eq_getElem h1] at hu
  injection hu with hu
  rw [hu]
  simp

end Go.Hl
namespace Go.Proofs
open Go.Shelf
def Tryd.lays137_ren : Go.Shelf.Ren := ⟨fun | 137 => 52 | 217 => 63 | 266 => 71 | n => n, fun | 9 => 9 | 5 => 5 | 3 => 3 | n => n, fun | n => n⟩
theorem Tryd.lays137 : Go.Proofs.Lays.n137 Tryd.prog Tryd.lays137_ren := {
  mixed := by kernel_rfl
  f137 := Tryd.func52.trans (congrArg some (by kernel_rfl))
  f217 := Tryd.func63.trans (congrArg some (by kernel_rfl))
  f266 := Tryd.func71.trans (congrArg some (by kernel_rfl))
  t3 := Tryd.underlying3
  a3 := Tryd.isAgg3
  z3 := Tryd.sizeOf3
  v3 := Tryd.zeroValue3
  t5 := Tryd.underlying5
  a5 := Tryd.isAgg5
  z5 := Tryd.sizeOf5
  v5 := Tryd.zeroValue5
  t9 := Tryd.underlying9
  a9 := Tryd.isAgg9
  z9 := Tryd.sizeOf9
  v9 := Tryd.zeroValue9 }
open Go.RowKit in
theorem Tryd.strings_IndexByte (s : ByteArray) (c : Int) (w : World) :
    Calls Tryd.prog 52 #[.string s, .int .u8 c] w fun e w' => e = .returned (.int .i64 (Lib.indexByte s.data.toList c.toNat.toUInt8)) ∧ w' = w := Any.strings_IndexByte Tryd.lays137 s c w
def Tryd.laysM171_ren : Go.Shelf.Ren := ⟨fun | 171 => 68 | 243 => 75 | 246 => 85 | 283 => 90 | 284 => 91 | 285 => 92 | 286 => 93 | 129 => 97 | 317 => 96 | 318 => 98 | 319 => 99 | 320 => 100 | 337 => 101 | 338 => 102 | n => n, fun | 3 => 3 | 9 => 9 | 2 => 2 | 4 => 4 | 171 => 125 | 0 => 0 | 53 => 119 | 37 => 67 | 5 => 5 | 173 => 128 | 212 => 135 | 51 => 116 | 20 => 20 | 213 => 136 | 46 => 28 | 232 => 140 | 233 => 141 | n => n, fun | 17 => 4 | 18 => 5 | 19 => 6 | n => n⟩
theorem Tryd.laysM171 : Go.Proofs.LaysM.n171 Tryd.prog Tryd.laysM171_ren := {
  mixed := by kernel_rfl
  f129 := Tryd.func97.trans (congrArg some (by kernel_rfl))
  f171 := Tryd.func68.trans (congrArg some (by kernel_rfl))
  f243 := Tryd.func75.trans (congrArg some (by kernel_rfl))
  f246 := Tryd.func85.trans (congrArg some (by kernel_rfl))
  f283 := Tryd.func90.trans (congrArg some (by kernel_rfl))
  f284 := Tryd.func91.trans (congrArg some (by kernel_rfl))
  f285 := Tryd.func92.trans (congrArg some (by kernel_rfl))
  f286 := Tryd.func93.trans (congrArg some (by kernel_rfl))
  f317 := Tryd.func96.trans (congrArg some (by kernel_rfl))
  f318 := Tryd.func98.trans (congrArg some (by kernel_rfl))
  f319 := Tryd.func99.trans (congrArg some (by kernel_rfl))
  f320 := Tryd.func100.trans (congrArg some (by kernel_rfl))
  f337 := Tryd.func101.trans (congrArg some (by kernel_rfl))
  f338 := Tryd.func102.trans (congrArg some (by kernel_rfl))
  t0 := Tryd.underlying0
  a0 := Tryd.isAgg0
  z0 := Tryd.sizeOf0
  v0 := Tryd.zeroValue0
  t2 := Tryd.underlying2
  a2 := Tryd.isAgg2
  z2 := Tryd.sizeOf2
  v2 := Tryd.zeroValue2
  t3 := Tryd.underlying3
  a3 := Tryd.isAgg3
  z3 := Tryd.sizeOf3
  v3 := Tryd.zeroValue3
  t4 := Tryd.underlying4
  a4 := Tryd.isAgg4
  z4 := Tryd.sizeOf4
  v4 := Tryd.zeroValue4
  t5 := Tryd.underlying5
  a5 := Tryd.isAgg5
  z5 := Tryd.sizeOf5
  v5 := Tryd.zeroValue5
  t9 := Tryd.underlying9
  a9 := Tryd.isAgg9
  z9 := Tryd.sizeOf9
  v9 := Tryd.zeroValue9
  t20 := Tryd.underlying20
  a20 := Tryd.isAgg20
  z20 := Tryd.sizeOf20
  v20 := Tryd.zeroValue20
  t37 := Tryd.underlying67
  a37 := Tryd.isAgg67
  z37 := Tryd.sizeOf67
  v37 := Tryd.zeroValue67
  t46 := Tryd.underlying28
  a46 := Tryd.isAgg28
  z46 := Tryd.sizeOf28
  v46 := Tryd.zeroValue28
  t51 := Tryd.underlying116
  a51 := Tryd.isAgg116
  z51 := Tryd.sizeOf116
  v51 := Tryd.zeroValue116
  t53 := Tryd.underlying119
  a53 := Tryd.isAgg119
  z53 := Tryd.sizeOf119
  v53 := Tryd.zeroValue119
  t171 := Tryd.underlying125
  a171 := Tryd.isAgg125
  z171 := Tryd.sizeOf125
  v171 := Tryd.zeroValue125
  t173 := Tryd.underlying128
  a173 := Tryd.isAgg128
  z173 := Tryd.sizeOf128
  v173 := Tryd.zeroValue128
  t212 := Tryd.underlying135
  a212 := Tryd.isAgg135
  z212 := Tryd.sizeOf135
  v212 := Tryd.zeroValue135
  t213 := Tryd.underlying136
  a213 := Tryd.isAgg136
  z213 := Tryd.sizeOf136
  t232 := Tryd.underlying140
  a232 := Tryd.isAgg140
  z232 := Tryd.sizeOf140
  v232 := Tryd.zeroValue140
  t233 := Tryd.underlying141
  a233 := Tryd.isAgg141
  z233 := Tryd.sizeOf141
  v233 := Tryd.zeroValue141
  g17 := by kernel_rfl
  g18 := by kernel_rfl
  g19 := by kernel_rfl
  i0 := by kernel_rfl
  i2 := by kernel_rfl
  i3 := by kernel_rfl
  i4 := by kernel_rfl
  i5 := by kernel_rfl
  i9 := by kernel_rfl
  i20 := by kernel_rfl
  i37 := by kernel_rfl
  i46 := by kernel_rfl
  i51 := by kernel_rfl
  i53 := by kernel_rfl
  i171 := by kernel_rfl
  i173 := by kernel_rfl
  i212 := by kernel_rfl
  i232 := by kernel_rfl
  i233 := by kernel_rfl
  m17 := by kernel_rfl
  m18 := by kernel_rfl
  m19 := by kernel_rfl }
open Go.RowKit Go.Sort Go.Lib in
theorem Tryd.strconv_Itoa (n : Int) (h0 : -9223372036854775808 ≤ n) (h1 : n ≤ 9223372036854775807) (w : World) (htab : Lib.TabIs Tryd.prog w "internal/strconv.uint64pow10" .u64 Lib.pow10Tab) :
    Calls Tryd.prog 68 #[.int .i64 n] w fun e w' => e = .returned (.string ⟨(Lib.itoa n).toArray⟩) ∧ ∃ k os, w' = grow (w.drewN k) os := Any.strconv_Itoa Tryd.laysM171 n h0 h1 w htab
def Tryd.laysC172_ren : Go.Shelf.Ren := ⟨fun | 172 => 67 | 244 => 73 | 245 => 74 | 247 => 80 | 279 => 81 | 280 => 82 | 281 => 83 | 282 => 84 | 287 => 87 | 316 => 88 | 171 => 68 | 205 => 89 | 321 => 94 | 322 => 95 | 243 => 75 | 246 => 85 | 283 => 90 | 284 => 91 | 285 => 92 | 286 => 93 | 129 => 97 | 317 => 96 | 318 => 98 | 319 => 99 | 320 => 100 | 337 => 101 | 338 => 102 | n => n, fun | 9 => 9 | 3 => 3 | 75 => 25 | 76 => 29 | 4 => 4 | 5 => 5 | 167 => 109 | 37 => 67 | 0 => 0 | 85 => 110 | 2 => 2 | 168 => 112 | 53 => 119 | 175 => 120 | 46 => 28 | 210 => 123 | 127 => 81 | 145 => 133 | 143 => 131 | 21 => 21 | 171 => 125 | 173 => 128 | 212 => 135 | 51 => 116 | 20 => 20 | 213 => 136 | 232 => 140 | 233 => 141 | 80 => 38 | n => n, fun | 15 => 2 | 16 => 3 | 17 => 4 | 18 => 5 | 19 => 6 | n => n⟩
theorem Tryd.laysC172 : Go.Proofs.LaysC.n172 Tryd.prog Tryd.laysC172_ren := {
  mixed := by kernel_rfl
  f129 := Tryd.func97.trans (congrArg some (by kernel_rfl))
  f171 := Tryd.func68.trans (congrArg some (by kernel_rfl))
  f172 := Tryd.func67.trans (congrArg some (by kernel_rfl))
  f205 := Tryd.func89.trans (congrArg some (by kernel_rfl))
  f243 := Tryd.func75.trans (congrArg some (by kernel_rfl))
  f244 := Tryd.func73.trans (congrArg some (by kernel_rfl))
  f245 := Tryd.func74.trans (congrArg some (by kernel_rfl))
  f246 := Tryd.func85.trans (congrArg some (by kernel_rfl))
  f247 := Tryd.func80.trans (congrArg some (by kernel_rfl))
  f279 := Tryd.func81.trans (congrArg some (by kernel_rfl))
  f280 := Tryd.func82.trans (congrArg some (by kernel_rfl))
  f281 := Tryd.func83.trans (congrArg some (by kernel_rfl))
  f282 := Tryd.func84.trans (congrArg some (by kernel_rfl))
  f283 := Tryd.func90.trans (congrArg some (by kernel_rfl))
  f284 := Tryd.func91.trans (congrArg some (by kernel_rfl))
  f285 := Tryd.func92.trans (congrArg some (by kernel_rfl))
  f286 := Tryd.func93.trans (congrArg some (by kernel_rfl))
  f287 := Tryd.func87.trans (congrArg some (by kernel_rfl))
  f316 := Tryd.func88.trans (congrArg some (by kernel_rfl))
  f317 := Tryd.func96.trans (congrArg some (by kernel_rfl))
  f318 := Tryd.func98.trans (congrArg some (by kernel_rfl))
  f319 := Tryd.func99.trans (congrArg some (by kernel_rfl))
  f320 := Tryd.func100.trans (congrArg some (by kernel_rfl))
  f321 := Tryd.func94.trans (congrArg some (by kernel_rfl))
  f322 := Tryd.func95.trans (congrArg some (by kernel_rfl))
  f337 := Tryd.func101.trans (congrArg some (by kernel_rfl))
  f338 := Tryd.func102.trans (congrArg some (by kernel_rfl))
  t0 := Tryd.underlying0
  a0 := Tryd.isAgg0
  z0 := Tryd.sizeOf0
  v0 := Tryd.zeroValue0
  t2 := Tryd.underlying2
  a2 := Tryd.isAgg2
  z2 := Tryd.sizeOf2
  v2 := Tryd.zeroValue2
  t3 := Tryd.underlying3
  a3 := Tryd.isAgg3
  z3 := Tryd.sizeOf3
  v3 := Tryd.zeroValue3
  t4 := Tryd.underlying4
  a4 := Tryd.isAgg4
  z4 := Tryd.sizeOf4
  v4 := Tryd.zeroValue4
  t5 := Tryd.underlying5
  a5 := Tryd.isAgg5
  z5 := Tryd.sizeOf5
  v5 := Tryd.zeroValue5
  t9 := Tryd.underlying9
  a9 := Tryd.isAgg9
  z9 := Tryd.sizeOf9
  v9 := Tryd.zeroValue9
  t20 := Tryd.underlying20
  a20 := Tryd.isAgg20
  z20 := Tryd.sizeOf20
  v20 := Tryd.zeroValue20
  t21 := Tryd.underlying21
  a21 := Tryd.isAgg21
  z21 := Tryd.sizeOf21
  v21 := Tryd.zeroValue21
  t37 := Tryd.underlying67
  a37 := Tryd.isAgg67
  z37 := Tryd.sizeOf67
  v37 := Tryd.zeroValue67
  t46 := Tryd.underlying28
  a46 := Tryd.isAgg28
  z46 := Tryd.sizeOf28
  v46 := Tryd.zeroValue28
  t51 := Tryd.underlying116
  a51 := Tryd.isAgg116
  z51 := Tryd.sizeOf116
  v51 := Tryd.zeroValue116
  t53 := Tryd.underlying119
  a53 := Tryd.isAgg119
  z53 := Tryd.sizeOf119
  v53 := Tryd.zeroValue119
  t75 := Tryd.underlying25
  a75 := Tryd.isAgg25
  z75 := Tryd.sizeOf25
  v75 := Tryd.zeroValue25
  t76 := Tryd.underlying29
  a76 := Tryd.isAgg29
  z76 := Tryd.sizeOf29
  v76 := Tryd.zeroValue29
  t85 := Tryd.underlying110
  a85 := Tryd.isAgg110
  z85 := Tryd.sizeOf110
  v85 := Tryd.zeroValue110
  t127 := Tryd.underlying81
  a127 := Tryd.isAgg81
  z127 := Tryd.sizeOf81
  v127 := Tryd.zeroValue81
  t143 := Tryd.underlying131
  a143 := Tryd.isAgg131
  z143 := Tryd.sizeOf131
  v143 := Tryd.zeroValue131
  t145 := Tryd.underlying133
  a145 := Tryd.isAgg133
  z145 := Tryd.sizeOf133
  v145 := Tryd.zeroValue133
  t167 := Tryd.underlying109
  a167 := Tryd.isAgg109
  z167 := Tryd.sizeOf109
  v167 := Tryd.zeroValue109
  t168 := Tryd.underlying112
  a168 := Tryd.isAgg112
  z168 := Tryd.sizeOf112
  v168 := Tryd.zeroValue112
  t171 := Tryd.underlying125
  a171 := Tryd.isAgg125
  z171 := Tryd.sizeOf125
  v171 := Tryd.zeroValue125
  t173 := Tryd.underlying128
  a173 := Tryd.isAgg128
  z173 := Tryd.sizeOf128
  v173 := Tryd.zeroValue128
  t175 := Tryd.underlying120
  a175 := Tryd.isAgg120
  z175 := Tryd.sizeOf120
  v175 := Tryd.zeroValue120
  t210 := Tryd.underlying123
  a210 := Tryd.isAgg123
  z210 := Tryd.sizeOf123
  v210 := Tryd.zeroValue123
  t212 := Tryd.underlying135
  a212 := Tryd.isAgg135
  z212 := Tryd.sizeOf135
  v212 := Tryd.zeroValue135
  t213 := Tryd.underlying136
  a213 := Tryd.isAgg136
  z213 := Tryd.sizeOf136
  t232 := Tryd.underlying140
  a232 := Tryd.isAgg140
  z232 := Tryd.sizeOf140
  v232 := Tryd.zeroValue140
  t233 := Tryd.underlying141
  a233 := Tryd.isAgg141
  z233 := Tryd.sizeOf141
  v233 := Tryd.zeroValue141
  g15 := by kernel_rfl
  g16 := by kernel_rfl
  g17 := by kernel_rfl
  g18 := by kernel_rfl
  g19 := by kernel_rfl
  t80 := Tryd.underlying38
  a80 := Tryd.isAgg38
  z80 := Tryd.sizeOf38
  v80 := Tryd.zeroValue38
  i0 := by kernel_rfl
  i2 := by kernel_rfl
  i3 := by kernel_rfl
  i4 := by kernel_rfl
  i5 := by kernel_rfl
  i9 := by kernel_rfl
  i20 := by kernel_rfl
  i21 := by kernel_rfl
  i37 := by kernel_rfl
  i46 := by kernel_rfl
  i51 := by kernel_rfl
  i53 := by kernel_rfl
  i75 := by kernel_rfl
  i76 := by kernel_rfl
  i80 := by kernel_rfl
  i85 := by kernel_rfl
  i127 := by kernel_rfl
  i143 := by kernel_rfl
  i145 := by kernel_rfl
  i167 := by kernel_rfl
  i168 := by kernel_rfl
  i171 := by kernel_rfl
  i173 := by kernel_rfl
  i175 := by kernel_rfl
  i210 := by kernel_rfl
  i212 := by kernel_rfl
  i232 := by kernel_rfl
  i233 := by kernel_rfl
  m15 := by kernel_rfl
  m16 := by kernel_rfl
  m17 := by kernel_rfl
  m18 := by kernel_rfl
  m19 := by kernel_rfl
  c0 := by kernel_rfl
  c2 := by kernel_rfl
  c3 := by kernel_rfl
  c4 := by kernel_rfl
  c5 := by kernel_rfl
  c9 := by kernel_rfl
  c20 := by kernel_rfl
  c21 := by kernel_rfl
  c37 := by kernel_rfl
  c46 := by kernel_rfl
  c51 := by kernel_rfl
  c53 := by kernel_rfl
  c75 := by kernel_rfl
  c76 := by kernel_rfl
  c80 := by kernel_rfl
  c85 := by kernel_rfl
  c127 := by kernel_rfl
  c143 := by kernel_rfl
  c145 := by kernel_rfl
  c167 := by kernel_rfl
  c168 := by kernel_rfl
  c171 := by kernel_rfl
  c173 := by kernel_rfl
  c175 := by kernel_rfl
  c210 := by kernel_rfl
  c212 := by kernel_rfl
  c213 := by kernel_rfl
  c232 := by kernel_rfl
  c233 := by kernel_rfl }
open Go.RowKit in
theorem Tryd.strconv_Atoi_ok (s : ByteArray) (hmax : s.size ≤ 9223372036854775806) (v : Int) (h : Lib.atoiAll s.data.toList = .ok v) (w : World) :
    Calls Tryd.prog 67 #[.string s] w fun e w' => e = .returned (.tuple #[.int .i64 v, .nilIface]) ∧ (w' = w ∨ ∃ t, w' = Lib.bytesWorld w 5 t) := Any.strconv_Atoi_ok Tryd.laysC172 s hmax v h w
open Go.RowKit in
theorem Tryd.strconv_Atoi_syntax (s : ByteArray) (hlim : s.size ≤ 281474976710656) (h : Lib.atoiAll s.data.toList = .«syntax») (ev : Value) (w : World) (hv : w.cell? ⟨2, 0, none⟩ = some ev) (hev : ev = .nilIface ∨ ∃ te pe, ev = .iface te pe) :
    Calls Tryd.prog 67 #[.string s] w fun e w' => ∃ N, e = .returned (.tuple #[.int .i64 (0), .iface 112 (.pointer (some ⟨N, 0, none⟩))]) ∧ w.heap.size ≤ N ∧ w'.heap[N]? = some (.cells #[.string ⟨#[65, 116, 111, 105]⟩, .string s, ev] 123 (0, 0)) ∧ Below w.heap.size w w' := Any.strconv_Atoi_syntax Tryd.laysC172 s hlim h ev w hv hev
open Go.RowKit in
theorem Tryd.strconv_Atoi_range (s : ByteArray) (hlim : s.size ≤ 281474976710656) (h : Lib.atoiAll s.data.toList = .range) (ev : Value) (w : World) (hv : w.cell? ⟨3, 0, none⟩ = some ev) (hev : ev = .nilIface ∨ ∃ te pe, ev = .iface te pe) :
    Calls Tryd.prog 67 #[.string s] w fun e w' => ∃ N, e = .returned (.tuple #[.int .i64 (Lib.atoiSat s.data.toList), .iface 112 (.pointer (some ⟨N, 0, none⟩))]) ∧ w.heap.size ≤ N ∧ w'.heap[N]? = some (.cells #[.string ⟨#[65, 116, 111, 105]⟩, .string s, ev] 123 (0, 0)) ∧ Below w.heap.size w w' := Any.strconv_Atoi_range Tryd.laysC172 s hlim h ev w hv hev
def Tryd.lays143_ren : Go.Shelf.Ren := ⟨fun | 143 => 65 | 219 => 72 | 217 => 63 | 225 => 77 | 224 => 78 | 267 => 79 | 266 => 71 | 314 => 86 | n => n, fun | 9 => 9 | 3 => 3 | 4 => 4 | 5 => 5 | 46 => 28 | 146 => 117 | 51 => 116 | n => n, fun | 1 => 1 | n => n⟩
theorem Tryd.lays143 : Go.Proofs.Lays.n143 Tryd.prog Tryd.lays143_ren := {
  mixed := by kernel_rfl
  f143 := Tryd.func65.trans (congrArg some (by kernel_rfl))
  f217 := Tryd.func63.trans (congrArg some (by kernel_rfl))
  f219 := Tryd.func72.trans (congrArg some (by kernel_rfl))
  f224 := Tryd.func78.trans (congrArg some (by kernel_rfl))
  f225 := Tryd.func77.trans (congrArg some (by kernel_rfl))
  f266 := Tryd.func71.trans (congrArg some (by kernel_rfl))
  f267 := Tryd.func79.trans (congrArg some (by kernel_rfl))
  f314 := Tryd.func86.trans (congrArg some (by kernel_rfl))
  t3 := Tryd.underlying3
  a3 := Tryd.isAgg3
  z3 := Tryd.sizeOf3
  v3 := Tryd.zeroValue3
  t4 := Tryd.underlying4
  a4 := Tryd.isAgg4
  z4 := Tryd.sizeOf4
  v4 := Tryd.zeroValue4
  t5 := Tryd.underlying5
  a5 := Tryd.isAgg5
  z5 := Tryd.sizeOf5
  v5 := Tryd.zeroValue5
  t9 := Tryd.underlying9
  a9 := Tryd.isAgg9
  z9 := Tryd.sizeOf9
  v9 := Tryd.zeroValue9
  t46 := Tryd.underlying28
  a46 := Tryd.isAgg28
  z46 := Tryd.sizeOf28
  v46 := Tryd.zeroValue28
  t51 := Tryd.underlying116
  a51 := Tryd.isAgg116
  z51 := Tryd.sizeOf116
  v51 := Tryd.zeroValue116
  t146 := Tryd.underlying117
  a146 := Tryd.isAgg117
  z146 := Tryd.sizeOf117
  v146 := Tryd.zeroValue117
  g1 := by kernel_rfl }
open Go.RowKit Go.Lib in
theorem Tryd.strings_Index (s sub : ByteArray) (m : Int) (w : World) (hs : s.size < 4294967281) (hm : w.cell? ⟨1, 0, none⟩ = some (.int .i64 m)) :
    Calls Tryd.prog 65 #[.string s, .string sub] w fun e w' => e = .returned (.int .i64 (Lib.index s.data.toList sub.data.toList)) ∧ w' = w := Any.strings_Index Tryd.lays143 s sub m w hs hm
def Tryd.lays206_ren : Go.Shelf.Ren := ⟨fun | 206 => 54 | n => n, fun | 9 => 9 | 4 => 4 | 3 => 3 | n => n, fun | n => n⟩
theorem Tryd.lays206 : Go.Proofs.Lays.n206 Tryd.prog Tryd.lays206_ren := {
  mixed := by kernel_rfl
  f206 := Tryd.func54.trans (congrArg some (by kernel_rfl))
  t3 := Tryd.underlying3
  a3 := Tryd.isAgg3
  z3 := Tryd.sizeOf3
  v3 := Tryd.zeroValue3
  t4 := Tryd.underlying4
  a4 := Tryd.isAgg4
  z4 := Tryd.sizeOf4
  v4 := Tryd.zeroValue4
  t9 := Tryd.underlying9
  a9 := Tryd.isAgg9
  z9 := Tryd.sizeOf9
  v9 := Tryd.zeroValue9 }
open Go.RowKit Go.Lib in
theorem Tryd.stringslite_HasPrefix (s p : ByteArray) (w : World) :
    Calls Tryd.prog 54 #[.string s, .string p] w fun e w' => e = .returned (.bool (Lib.hasPrefix s.data.toList p.data.toList)) ∧ w' = w := Any.stringslite_HasPrefix Tryd.lays206 s p w
def Tryd.lays99_ren : Go.Shelf.Ren := ⟨fun | 99 => 47 | 206 => 54 | n => n, fun | 9 => 9 | 4 => 4 | 3 => 3 | n => n, fun | n => n⟩
theorem Tryd.lays99 : Go.Proofs.Lays.n99 Tryd.prog Tryd.lays99_ren := {
  mixed := by kernel_rfl
  f99 := Tryd.func47.trans (congrArg some (by kernel_rfl))
  f206 := Tryd.func54.trans (congrArg some (by kernel_rfl))
  t3 := Tryd.underlying3
  a3 := Tryd.isAgg3
  z3 := Tryd.sizeOf3
  v3 := Tryd.zeroValue3
  t4 := Tryd.underlying4
  a4 := Tryd.isAgg4
  z4 := Tryd.sizeOf4
  v4 := Tryd.zeroValue4
  t9 := Tryd.underlying9
  a9 := Tryd.isAgg9
  z9 := Tryd.sizeOf9
  v9 := Tryd.zeroValue9 }
open Go.RowKit Go.Lib in
theorem Tryd.strings_HasPrefix (s p : ByteArray) (w : World) :
    Calls Tryd.prog 47 #[.string s, .string p] w fun e w' => e = .returned (.bool (Lib.hasPrefix s.data.toList p.data.toList)) ∧ w' = w := Any.strings_HasPrefix Tryd.lays99 s p w

end Go.Proofs
set_option linter.unusedSectionVars false
set_option linter.unusedVariables false
set_option linter.unusedSimpArgs false
set_option maxRecDepth 100000
namespace Go.Hl
open Go Go.Proofs Go.RowKit

theorem indexByte_calls (s : ByteArray) (b : UInt8) (σ : St) : HCalls Tryd.prog 52 [.str s, byD b] σ (fun d σ' => d = .int .i64 (Lib.indexByte s.data.toList b) ∧ σ' = σ) := by
  refine hcalls_plain (by kernel_rfl) fun g w vs hr hl => ?_
  simp only [RL, R] at hl
  obtain ⟨u0, us, rfl, rfl, u1, us1, rfl, rfl, rfl⟩ := hl
  refine (Tryd.strings_IndexByte s (b.toNat : Int) w).mono ?_
  rintro e w' ⟨rfl, rfl⟩
  have hb : ((b.toNat : Int)).toNat.toUInt8 = b := by simp
  exact ⟨_, .int .i64 (Lib.indexByte s.data.toList b), by rw [hb], E.refl g _ hr.gw, hr, by simp only [R], rfl, rfl⟩

theorem blank_calls (b : UInt8) (σ : St) : HCalls Tryd.prog 45 [byD b] σ (fun d σ' => d = .bool (isBlk b) ∧ σ' = σ) := by
  refine hcalls_body (fn := Tryd.f45) rfl c45 (by simp [h45]) (by simp [h45, Tryd.f45]) ?_
  intro M hP hr hnt hnx hwf hlt
  simp only [h45, argEnv]
  refine hgo_sound 60 ?_
  simp -implicitDefEqProofs (maxSteps := 1000000) only [simpS, ↓condJ_true, ↓condJ_false, ↓reduceIte, Nat.reduceEqDiff, Nat.reduceLT, Nat.reduceLeDiff, reduceCtorEq, Nat.reduceAdd, Nat.reduceSub, noneS, listS, implies_true, forall_const, ne_eq]
  refine hx_call (f := .fn 52) rfl (by rw [hP]; exact hcallD_func (indexByte_calls _ b _)) ?_
  rintro _ σ2 ⟨rfl, h⟩
  subst σ2
  refine hgo_sound 60 ?_
  simp -implicitDefEqProofs (maxSteps := 1000000) only [simpS, ↓condJ_true, ↓condJ_false, ↓reduceIte, Nat.reduceEqDiff, Nat.reduceLT, Nat.reduceLeDiff, reduceCtorEq, Nat.reduceAdd, Nat.reduceSub, noneS, listS, implies_true, forall_const, ne_eq]
  refine fpost_pure (σ0 := σ) (.inr rfl) (by rw [hnx]; exact Nat.le_refl _) hwf (Sub.refl σ) rfl trivial trivial ⟨congrArg D.bool (?_ : _ = isBlk b), rfl⟩
  have key : ∀ n : Fin 256, decide (Lib.indexByte [9, 10, 13, 32] (UInt8.ofNat n.val) ≥ 0) = isBlk (UInt8.ofNat n.val) := by decide +kernel
  have := key ⟨b.toNat, b.toNat_lt⟩
  simpa using this

def kwS : List ByteArray := [⟨#[99, 108, 97, 115, 115]⟩, ⟨#[101, 120, 116, 101, 110, 100, 115]⟩, ⟨#[112, 117, 98, 108, 105, 99]⟩, ⟨#[115, 116, 97, 116, 105, 99]⟩, ⟨#[118, 111, 105, 100]⟩, ⟨#[109, 97, 105, 110]⟩, ⟨#[83, 116, 114, 105, 110, 103]⟩, ⟨#[105, 110, 116]⟩,
  ⟨#[98, 111, 111, 108, 101, 97, 110]⟩, ⟨#[114, 101, 116, 117, 114, 110]⟩, ⟨#[105, 102]⟩, ⟨#[101, 108, 115, 101]⟩, ⟨#[119, 104, 105, 108, 101]⟩, ⟨#[116, 114, 117, 101]⟩, ⟨#[102, 97, 108, 115, 101]⟩, ⟨#[116, 104, 105, 115]⟩, ⟨#[110, 101, 119]⟩, ⟨#[108, 101, 110, 103, 116, 104]⟩]

def encW (l : List ByteArray) : List (List D) := l.map fun s => [.str s]
theorem encW_lt (n : Nat) : ∀ l : List ByteArray, ltX n (encW l)
  | [] => trivial
  | s :: l => ⟨⟨trivial, trivial⟩, encW_lt n l⟩
theorem encW_length (l : List ByteArray) : (encW l).length = l.length := by simp [encW]
theorem encW_get (l : List ByteArray) (j : Nat) (h : j < l.length) : (encW l).getD j [] = [.str l[j]] := by simp [encW, List.getD, h]

def idxW (x : ByteArray) : List ByteArray → Nat → Int
  | [], _ => -1
  | y :: ys, j => if x = y then j else idxW x ys (j + 1)
def memW (x : ByteArray) : List ByteArray → Bool
  | [] => false
  | y :: ys => decide (x = y) || memW x ys
def isKw (s : ByteArray) : Bool := memW s kwS

theorem idxW_ge (x : ByteArray) : ∀ (l : List ByteArray) (j : Nat), decide (idxW x l j ≥ 0) = memW x l
  | [], j => by simp [idxW, memW]
  | y :: ys, j => by
    simp only [idxW, memW]
    split
    · rename_i h
      simp [h]
    · rename_i h
      rw [idxW_ge x ys (j + 1)]
      simp [h]

structure KwS where
  j : Nat

theorem sindex_calls (l : List ByteArray) (hl : l.length ≤ 140737488355328) (x : ByteArray) (σ : St) : HCalls Tryd.prog 76 [.slice .no 1 (encW l), .str x] σ (fun d σ' => d = .int .i64 (idxW x l 0) ∧ σ' = σ) := by
  refine hcalls_body (fn := Tryd.f76) rfl c76 (by simp [h76]) (by simp [h76, Tryd.f76]) ?_
  intro M hP hr hnt hnx hwf hlt
  simp only [h76, argEnv]
  refine hgo_sound 60 ?_
  simp -implicitDefEqProofs (maxSteps := 1000000) only [simpS, ↓condJ_true, ↓condJ_false, ↓reduceIte, Nat.reduceEqDiff, Nat.reduceLT, Nat.reduceLeDiff, reduceCtorEq, Nat.reduceAdd, Nat.reduceSub, noneS, listS, implies_true, forall_const, ne_eq]
  refine hx_know_code fun hw hl1 hn1 => ?_
  refine hx_loop (S := KwS) (fun t => [(0, .slice .no 1 (encW l)), (1, .str x), (7, .int .i64 ((encW l).length : Int)), (8, .int .i64 t.j)]) (fun _ => σ)
    (fun t => t.j ≤ l.length ∧ idxW x (l.drop t.j) t.j = idxW x l 0) (fun t => l.length - t.j) ⟨0⟩ ⟨Nat.zero_le _, rfl⟩ (fun _ _ h => by rw [hr] at h; cases h) ?_ ?_
  · exact Drop.all hw hn1 ⟨⟨rfl, ⟨trivial, encW_lt _ _⟩⟩, ⟨rfl, trivial⟩, ⟨rfl, trivial⟩, ⟨rfl, trivial⟩, trivial⟩
  rintro ⟨j⟩ ⟨j1, j4⟩
  simp only at j1 j4 ⊢
  have hjc : ((j : Int) < ((encW l).length : Int)) = (j < l.length) := by rw [encW_length]; simp
  by_cases hj : j < l.length
  · have hjd : decide (((j : Nat) : Int) < ((encW l).length : Int)) = true := by simp [hjc, hj]
    have hjp : ((j : Nat) : Int) < ((encW l).length : Int) := by rw [encW_length]; omega
    have hget := encW_get l j hj
    have hd : l.drop j = l[j] :: l.drop (j + 1) := List.drop_eq_getElem_cons hj
    rw [hd] at j4
    simp only [idxW] at j4
    have hwr : IntKind.i64.wrap ((j : Int) + 1) = ((j + 1 : Nat) : Int) := by rw [IntWalk.i64_in _ (by omega)]; rfl
    by_cases he : x = l[j]
    · have hed : decide (x = l[j]) = true := by simp [← he]
      rw [if_pos he] at j4
      rw [← j4]
      refine hgo_sound 60 ?_
      simp -implicitDefEqProofs (maxSteps := 1000000) only [simpS, ↓condJ_true, ↓condJ_false, ↓reduceIte, Nat.reduceEqDiff, Nat.reduceLT, Nat.reduceLeDiff, reduceCtorEq, Nat.reduceAdd, Nat.reduceSub, noneS, listS, implies_true, forall_const, ne_eq, hjd, hjp, Int.toNat_natCast, Int.natCast_nonneg, hget, hed]
      exact fpost_pure (σ0 := σ) (.inr rfl) (by rw [hnx]; exact Nat.le_refl _) hwf (Sub.refl σ) rfl trivial trivial ⟨rfl, rfl⟩
    · have hed : decide (x = l[j]) = false := by simp [he]
      rw [if_neg he] at j4
      refine hgo_sound 60 ?_
      simp -implicitDefEqProofs (maxSteps := 1000000) only [simpS, ↓condJ_true, ↓condJ_false, ↓reduceIte, Nat.reduceEqDiff, Nat.reduceLT, Nat.reduceLeDiff, reduceCtorEq, Nat.reduceAdd, Nat.reduceSub, noneS, listS, implies_true, forall_const, ne_eq, hjd, hjp, Int.toNat_natCast, Int.natCast_nonneg, hget, hed, hwr]
      intro hw2 hl2 hn2
      refine ⟨⟨j + 1⟩, ⟨by simp only; omega, j4⟩, by simp only; omega, ?_⟩
      exact Drop.all hw2 hn2 ⟨⟨rfl, ⟨trivial, encW_lt _ _⟩⟩, ⟨rfl, trivial⟩, ⟨rfl, trivial⟩, ⟨rfl, trivial⟩, trivial⟩
  · have hjd : decide (((j : Nat) : Int) < ((encW l).length : Int)) = false := by simp [hjc, hj]
    have hd : l.drop j = [] := List.drop_eq_nil_of_le (by omega)
    rw [hd] at j4
    rw [← j4]
    refine hgo_sound 60 ?_
    simp -implicitDefEqProofs (maxSteps := 1000000) only [simpS, ↓condJ_true, ↓condJ_false, ↓reduceIte, Nat.reduceEqDiff, Nat.reduceLT, Nat.reduceLeDiff, reduceCtorEq, Nat.reduceAdd, Nat.reduceSub, noneS, listS, implies_true, forall_const, ne_eq, hjd]
    exact fpost_pure (σ0 := σ) (.inr rfl) (by rw [hnx]; exact Nat.le_refl _) hwf (Sub.refl σ) rfl trivial trivial ⟨rfl, rfl⟩

theorem contains_calls (l : List ByteArray) (hl : l.length ≤ 140737488355328) (x : ByteArray) (σ : St) : HCalls Tryd.prog 69 [.slice .no 1 (encW l), .str x] σ (fun d σ' => d = .bool (memW x l) ∧ σ' = σ) := by
  refine hcalls_body (fn := Tryd.f69) rfl c69 (by simp [h69]) (by simp [h69, Tryd.f69]) ?_
  intro M hP hr hnt hnx hwf hlt
  simp only [h69, argEnv]
  refine hgo_sound 60 ?_
  simp -implicitDefEqProofs (maxSteps := 1000000) only [simpS, ↓condJ_true, ↓condJ_false, ↓reduceIte, Nat.reduceEqDiff, Nat.reduceLT, Nat.reduceLeDiff, reduceCtorEq, Nat.reduceAdd, Nat.reduceSub, noneS, listS, implies_true, forall_const, ne_eq]
  refine hx_call (f := .fn 76) rfl (by rw [hP]; exact hcallD_func (sindex_calls l hl x _)) ?_
  rintro _ σ2 ⟨rfl, h⟩
  subst σ2
  refine hgo_sound 60 ?_
  simp -implicitDefEqProofs (maxSteps := 1000000) only [simpS, ↓condJ_true, ↓condJ_false, ↓reduceIte, Nat.reduceEqDiff, Nat.reduceLT, Nat.reduceLeDiff, reduceCtorEq, Nat.reduceAdd, Nat.reduceSub, noneS, listS, implies_true, forall_const, ne_eq, idxW_ge]
  exact fpost_pure (σ0 := σ) (.inr rfl) (by rw [hnx]; exact Nat.le_refl _) hwf (Sub.refl σ) rfl trivial trivial ⟨rfl, rfl⟩

structure GK (σ : St) : Prop where
  words : σ.glob 0 = some (kwS.map D.str)
  e1 : ∃ t, σ.glob 2 = some [.iface t .undef]
  e2 : ∃ t, σ.glob 3 = some [.iface t .undef]
  tab : σ.glob 4 = some (Lib.pow10Tab.map fun z => .int .u64 z)
theorem GK.to {σ σ' : St} (h : GK σ) (e : σ'.glob = σ.glob) : GK σ' := ⟨by rw [e]; exact h.words, by rw [e]; exact h.e1, by rw [e]; exact h.e2, by rw [e]; exact h.tab⟩

theorem keyword_calls (s : ByteArray) (σ : St) (hg : GK σ) : HCalls Tryd.prog 61 [.str s] σ (fun d σ' => d = .bool (isKw s) ∧ σ' = σ) := by
  refine hcalls_body (fn := Tryd.f61) rfl c61 (by simp [h61]) (by simp [h61, Tryd.f61]) ?_
  intro M hP hr hnt hnx hwf hlt
  simp only [h61, argEnv]
  have hm : (kwS.map D.str).map (fun c => [c]) = encW kwS := by simp [encW]
  have hlen : (kwS.map D.str).length = 18 := rfl
  refine hgo_sound 60 ?_
  simp -implicitDefEqProofs (maxSteps := 1000000) only [simpS, ↓condJ_true, ↓condJ_false, ↓reduceIte, Nat.reduceEqDiff, Nat.reduceLT, Nat.reduceLeDiff, reduceCtorEq, Nat.reduceAdd, Nat.reduceSub, noneS, listS, implies_true, forall_const, ne_eq, hg.words, hm, hlen]
  refine hx_call (f := .fn 69) rfl (by rw [hP]; exact hcallD_func (contains_calls kwS (by decide) s _)) ?_
  rintro _ σ2 ⟨rfl, h⟩
  subst σ2
  refine hgo_sound 60 ?_
  simp -implicitDefEqProofs (maxSteps := 1000000) only [simpS, ↓condJ_true, ↓condJ_false, ↓reduceIte, Nat.reduceEqDiff, Nat.reduceLT, Nat.reduceLeDiff, reduceCtorEq, Nat.reduceAdd, Nat.reduceSub, noneS, listS, implies_true, forall_const, ne_eq]
  exact fpost_pure (σ0 := σ) (.inr rfl) (by rw [hnx]; exact Nat.le_refl _) hwf (Sub.refl σ) rfl trivial trivial ⟨rfl, rfl⟩

end Go.Hl
set_option linter.unusedVariables false
set_option linter.unusedSimpArgs false
namespace Go.Hl
open Go

def rNumF (acc : Nat) : List UInt8 → Option Nat
  | [] => some acc
  | b :: bs => if isFig b then rNumF (10 * acc + (b.toNat - 48)) bs else none

def rNumD (s : ByteArray) : Option Nat :=
  let l := s.data.toList
  if l.length = 0 ∨ l.length > 10 ∨ (l.length > 1 ∧ l.headD 0 = 48) then none
  else match rNumF 0 l with
    | none => none
    | some n => if n > 2147483647 then none else some n

theorem rNumF_snoc (b : UInt8) : ∀ (l : List UInt8) (acc : Nat), rNumF acc (l ++ [b]) = match rNumF acc l with
    | none => none
    | some m => if isFig b then some (10 * m + (b.toNat - 48)) else none
  | [], acc => by simp [rNumF]
  | c :: l, acc => by
    simp only [List.cons_append, rNumF]
    split
    · exact rNumF_snoc b l _
    · rfl

theorem fig_of (d : Nat) (h : d < 10) : isFig (UInt8.ofNat (48 + d)) = true ∧ (UInt8.ofNat (48 + d)).toNat = 48 + d := by
  have : (UInt8.ofNat (48 + d)).toNat = 48 + d := by simp; omega
  refine ⟨?_, this⟩
  simp only [isFig, this]
  simp
  omega

theorem dec_num : ∀ u : Nat, rNumF 0 (Lib.decDigits u) = some u := by
  intro u
  induction u using Nat.strongRecOn with
  | _ u ih =>
    rw [Lib.decDigits]
    split
    · rename_i h
      obtain ⟨h1, h2⟩ := fig_of u h
      simp only [rNumF, h1, if_true, h2]
      simp
    · rename_i h
      obtain ⟨h1, h2⟩ := fig_of (u % 10) (by omega)
      rw [rNumF_snoc, ih (u / 10) (by omega)]
      simp only [h1, if_true, h2]
      congr 1
      omega

theorem dec_head : ∀ u : Nat, 1 ≤ u → ∃ b r, Lib.decDigits u = b :: r ∧ b ≠ 48 := by
  intro u
  induction u using Nat.strongRecOn with
  | _ u ih =>
    intro h1
    rw [Lib.decDigits]
    split
    · rename_i h
      refine ⟨_, _, rfl, fun e => ?_⟩
      have := congrArg UInt8.toNat e
      rw [(fig_of u h).2] at this
      simp at this
      omega
    · rename_i h
      obtain ⟨b, r, e, hb⟩ := ih (u / 10) (by omega) (by omega)
      rw [e]
      exact ⟨b, r ++ _, rfl, hb⟩

theorem dec_zero : Lib.decDigits 0 = [48] := by rw [Lib.decDigits]; rfl

theorem fig_back {b : UInt8} (h : isFig b = true) : UInt8.ofNat (48 + (b.toNat - 48)) = b ∧ b.toNat - 48 < 10 ∧ 48 ≤ b.toNat := by
  simp only [isFig, decide_eq_true_eq] at h
  refine ⟨?_, by omega, h.1⟩
  rw [show 48 + (b.toNat - 48) = b.toNat by omega]
  simp

theorem dec_unique : ∀ (k : Nat) (l : List UInt8), l.length = k → l ≠ [] → (l.length > 1 → l.headD 0 ≠ 48) → ∀ n, rNumF 0 l = some n → l = Lib.decDigits n := by
  intro k
  induction k with
  | zero => intro l hl hne; exact absurd (List.eq_nil_of_length_eq_zero hl) hne
  | succ k ih =>
    intro l hl hne hh n hn
    obtain ⟨l', b, rfl⟩ : ∃ l' b, l = l' ++ [b] := ⟨l.dropLast, l.getLast hne, (List.dropLast_concat_getLast hne).symm⟩
    rw [rNumF_snoc] at hn
    cases hm : rNumF 0 l' with
    | none => rw [hm] at hn; cases hn
    | some m =>
      rw [hm] at hn
      simp only at hn
      split at hn; rotate_left; · cases hn
      rename_i hb
      injection hn with hn
      obtain ⟨q1, q2, q3⟩ := fig_back hb
      by_cases hl0 : l' = []
      · subst hl0
        simp only [rNumF, Option.some.injEq] at hm
        subst hm
        subst hn
        rw [Lib.decDigits, dif_pos (by omega), List.nil_append]
        rw [show 48 + (10 * 0 + (b.toNat - 48)) = 48 + (b.toNat - 48) by omega, q1]
      · have hlen : l'.length = k := by simpa using hl
        have hpos : 0 < l'.length := List.length_pos_iff.2 hl0
        have hhead : (l' ++ [b]).headD 0 = l'.headD 0 := by
          cases l' with
          | nil => exact absurd rfl hl0
          | cons c r => rfl
        have h48 : l'.headD 0 ≠ 48 := by
          rw [← hhead]
          exact hh (by simp; omega)
        have e := ih l' hlen hl0 (fun _ => h48) m hm
        have hm1 : 1 ≤ m := by
          rcases Nat.eq_zero_or_pos m with h0 | h0
          · subst h0
            rw [dec_zero] at e
            rw [e] at h48
            exact absurd rfl h48
          · exact h0
        rw [Lib.decDigits, dif_neg (by omega), show n / 10 = m by omega, show n % 10 = b.toNat - 48 by omega, q1, ← e]

theorem num_mono : ∀ (l : List UInt8) (acc n : Nat), rNumF acc l = some n → acc ≤ n
  | [], acc, n, h => by simp only [rNumF, Option.some.injEq] at h; omega
  | b :: l, acc, n, h => by
    simp only [rNumF] at h
    split at h; rotate_left; · cases h
    have := num_mono l _ n h
    omega

theorem num_parse : ∀ (l : List UInt8) (acc n : Nat), rNumF acc l = some n → n ≤ 2147483647 → Lib.parseUint10 acc l = .ok n
  | [], acc, n, h, _ => by simp only [rNumF, Option.some.injEq] at h; rw [h]; rfl
  | b :: l, acc, n, h, hn => by
    simp only [rNumF] at h
    split at h; rotate_left; · cases h
    rename_i hb
    have h1 := num_mono l _ n h
    obtain ⟨q1, q2, q3⟩ := fig_back hb
    simp only [Lib.parseUint10]
    rw [if_pos ⟨by omega, by omega⟩, if_neg (by omega), if_neg (by omega), show acc * 10 + (b.toNat - 48) = 10 * acc + (b.toNat - 48) by omega]
    exact num_parse l _ n h hn

theorem num_is {s : ByteArray} {n : Nat} (h : rNumD s = some n) : Lib.atoiAll s.data.toList = .ok (n : Int) ∧ s.data.toList.length ≤ 10 ∧ n ≤ 2147483647 ∧ Lib.itoa (n : Int) = s.data.toList := by
  unfold rNumD at h
  simp only at h
  generalize s.data.toList = l at *
  split at h; · cases h
  rename_i hc
  cases hm : rNumF 0 l with
  | none => rw [hm] at h; cases h
  | some m =>
    rw [hm] at h
    simp only at h
    split at h; · cases h
    injection h with h
    subst h
    have hne : l ≠ [] := fun e => hc (.inl (by rw [e]; rfl))
    have hh : l.length > 1 → l.headD 0 ≠ 48 := fun h1 h2 => hc (.inr (.inr ⟨h1, h2⟩))
    have e := dec_unique l.length l rfl hne hh m hm
    refine ⟨?_, by omega, by omega, by rw [Lib.itoa_nonneg, ← e]⟩
    cases l with
    | nil => exact absurd rfl hne
    | cons b r =>
      have hp := num_parse (b :: r) 0 m hm (by omega)
      have hb : isFig b = true := by
        simp only [rNumF] at hm
        split at hm
        · assumption
        · cases hm
      obtain ⟨q1, q2, q3⟩ := fig_back hb
      have hm2 : Lib.parseMag (b :: r) = .ok m := by unfold Lib.parseMag; rw [if_neg (by simp)]; exact hp
      simp only [Lib.atoiAll]
      rw [if_neg (by omega), hm2]
      simp only
      rw [if_neg (by omega), if_neg (by omega), if_neg (by omega)]

theorem is_num {s : ByteArray} {v : Int} (h0 : 0 ≤ v) (h1 : v ≤ 2147483647) (h10 : s.data.toList.length ≤ 10) (he : Lib.itoa v = s.data.toList) : rNumD s = some v.toNat := by
  obtain ⟨u, rfl⟩ : ∃ u : Nat, v = u := ⟨v.toNat, by omega⟩
  rw [Lib.itoa_nonneg] at he
  unfold rNumD
  simp only
  rw [← he] at h10 ⊢
  have hn := dec_num u
  have hne : (Lib.decDigits u).length ≠ 0 := by
    intro e
    rw [List.eq_nil_of_length_eq_zero e] at hn
    rw [Lib.decDigits] at e
    split at e <;> simp at e
  rw [if_neg ?_, hn]
  · simp only
    rw [if_neg (by omega)]
    simp
  · rintro (h | h | ⟨h, h'⟩)
    · exact hne h
    · omega
    · rcases Nat.eq_zero_or_pos u with h3 | h3
      · subst h3
        rw [dec_zero] at h
        simp at h
      · obtain ⟨b, r, e, hb⟩ := dec_head u h3
        rw [e] at h'
        exact hb h'

end Go.Hl
set_option linter.unusedSectionVars false
set_option linter.unusedVariables false
set_option linter.unusedSimpArgs false
set_option maxRecDepth 100000
namespace Go.Hl
open Go Go.Proofs Go.RowKit Go.Sort

def atoiD (s : ByteArray) (t : Nat) : D := match Lib.atoiAll s.data.toList with
  | .ok v => .tuple [.int .i64 v, .nili]
  | .range => .tuple [.int .i64 (Lib.atoiSat s.data.toList), .iface t .undef]
  | _ => .tuple [.int .i64 0, .iface t .undef]

theorem grow_below (w : World) (k : Nat) (os : Array Obj) : Below w.heap.size w (grow (w.drewN k) os) := by
  refine ⟨rfl, rfl, rfl, ?_, fun j hj => ?_⟩
  · show w.heap.size ≤ (w.heap ++ os).size
    rw [Array.size_append]
    omega
  · show (w.heap ++ os)[j]? = w.heap[j]?
    rw [Array.getElem?_append_left hj]

theorem errCell {σ : St} {g : G} {w : World} (hr : Rel Tryd.prog g σ w) {k : Nat} (h : ∃ t, σ.glob k = some [.iface t .undef]) : ∃ ev, w.cell? ⟨k, 0, none⟩ = some ev ∧ (ev = .nilIface ∨ ∃ te pe, ev = .iface te pe) := by
  obtain ⟨t, h⟩ := h
  obtain ⟨u, hu, hR⟩ := (hr.glob k _ h).cell (i := 0) (d := .iface t .undef) rfl
  simp only [R] at hR
  obtain ⟨p, rfl, _⟩ := hR
  exact ⟨_, hu, .inr ⟨_, _, rfl⟩⟩

theorem atoi_calls (s : ByteArray) (hs : s.size ≤ 140737488355328) (σ : St) (hg : GK σ) : HCalls Tryd.prog 67 [.str s] σ (fun d σ' => d = atoiD s 112 ∧ σ' = σ) := by
  refine hcalls_plain (by kernel_rfl) fun g w vs hr hl => ?_
  simp only [RL, R] at hl
  obtain ⟨u0, us, rfl, rfl, rfl⟩ := hl
  unfold atoiD
  cases h : Lib.atoiAll s.data.toList with
  | ok v =>
    refine (Tryd.strconv_Atoi_ok s (by omega) v h w).mono ?_
    rintro e w' ⟨rfl, hw⟩
    have hb : Below w.heap.size w w' := by
      rcases hw with rfl | ⟨t, rfl⟩
      · exact Below.refl _ _
      · exact below_bytes _ _ _
    obtain ⟨hE, hR⟩ := below_ER hr hb
    exact ⟨_, _, rfl, hE, hR, by simp only [R, RL]; exact ⟨_, rfl, _, _, rfl, rfl, _, _, rfl, rfl, rfl⟩, rfl, rfl⟩
  | range =>
    obtain ⟨ev, h1, h2⟩ := errCell hr hg.e2
    refine (Tryd.strconv_Atoi_range s (by omega) h ev w h1 h2).mono ?_
    rintro e w' ⟨N, rfl, _, _, hb⟩
    obtain ⟨hE, hR⟩ := below_ER hr hb
    exact ⟨_, _, rfl, hE, hR, by simp only [R, RL]; exact ⟨_, rfl, _, _, rfl, rfl, _, _, rfl, ⟨_, rfl, trivial⟩, rfl⟩, rfl, rfl⟩
  | _ =>
    obtain ⟨ev, h1, h2⟩ := errCell hr hg.e1
    refine (Tryd.strconv_Atoi_syntax s (by omega) h ev w h1 h2).mono ?_
    rintro e w' ⟨N, rfl, _, _, hb⟩
    obtain ⟨hE, hR⟩ := below_ER hr hb
    exact ⟨_, _, rfl, hE, hR, by simp only [R, RL]; exact ⟨_, rfl, _, _, rfl, rfl, _, _, rfl, ⟨_, rfl, trivial⟩, rfl⟩, rfl, rfl⟩

theorem itoa_calls (n : Int) (h0 : -9223372036854775808 ≤ n) (h1 : n ≤ 9223372036854775807) (σ : St) (hg : GK σ) : HCalls Tryd.prog 68 [.int .i64 n] σ (fun d σ' => d = .str ⟨(Lib.itoa n).toArray⟩ ∧ σ' = σ) := by
  refine hcalls_plain (by kernel_rfl) fun g w vs hr hl => ?_
  simp only [RL, R] at hl
  obtain ⟨u0, us, rfl, rfl, rfl⟩ := hl
  obtain ⟨e, z, hh⟩ := (hr.glob 4 _ hg.tab).ints
  refine (Tryd.strconv_Itoa n h0 h1 w ?_).mono ?_
  · unfold Lib.TabIs World.var?
    refine (congrArg (fun o => Option.bind o _) (by kernel_rfl : _ = some 4)).trans ?_
    simp [hh]
  rintro e w' ⟨rfl, k, os, rfl⟩
  obtain ⟨hE, hR⟩ := below_ER hr (grow_below w k os)
  exact ⟨_, _, rfl, hE, hR, by simp only [R], rfl, rfl⟩

end Go.Hl
set_option linter.unusedSectionVars false
set_option linter.unusedVariables false
set_option linter.unusedSimpArgs false
set_option maxRecDepth 100000
namespace Go.Hl
open Go Go.Proofs

def erD : Int → D
  | 0 => .nili
  | n => .iface 32 (.int .i64 n)
theorem erD_pos {n : Int} (h : n ≠ 0) : erD n = .iface 32 (.int .i64 n) := by
  unfold erD
  split
  · exact absurd rfl h
  · rfl
theorem erD_zero : erD 0 = .nili := rfl

def insP (b : UInt8) : Bool := isLet b || isFig b
def isWord (s : ByteArray) : Bool := match s.data.toList with
  | [] => false
  | b :: bs => decide (s.size ≤ 64) && (isLet b && (b :: bs).all insP)

theorem runTo_all (p : UInt8 → Bool) : ∀ l : List UInt8, runTo p l ≤ l.length ∧ (runTo p l = l.length ↔ l.all p = true)
  | [] => by simp [runTo]
  | b :: l => by
    obtain ⟨h1, h2⟩ := runTo_all p l
    simp only [runTo, List.length_cons, List.all_cons]
    by_cases hb : p b = true
    · simp only [hb, if_true, Bool.true_and]
      exact ⟨by omega, by rw [← h2]; omega⟩
    · simp only [hb, Bool.false_eq_true, if_false]
      have hb' : p b = false := by simpa using hb
      simp [hb']

theorem runAt_zero (p : UInt8 → Bool) (s : ByteArray) : runAt p s 0 = (runTo p s.data.toList : Int) := by
  have : runFrom s 0 = 0 := by unfold runFrom; omega
  unfold runAt
  rw [this, List.drop_zero, Nat.zero_add]

theorem runAt_all (p : UInt8 → Bool) (s : ByteArray) : (runAt p s 0 == (s.size : Int)) = s.data.toList.all p := by
  rw [runAt_zero]
  have h := (runTo_all p s.data.toList).2
  have hl : s.data.toList.length = s.size := by simp
  rw [hl] at h
  cases ha : s.data.toList.all p
  · rw [ha] at h
    simp only [Bool.false_eq_true, iff_false] at h
    simp only [beq_eq_false_iff_ne, ne_eq]
    omega
  · have := h.2 ha
    simp only [beq_iff_eq]
    omega

theorem word_calls (s : ByteArray) (hs : s.size ≤ 140737488355328) (σ : St) : HCalls Tryd.prog 62 [.str s] σ (fun d σ' => d = .bool (isWord s) ∧ σ' = σ) := by
  refine hcalls_body (fn := Tryd.f62) rfl c62 (by simp [h62]) (by simp [h62, Tryd.f62]) ?_
  intro M hP hr hnt hnx hwf hlt
  simp only [h62, argEnv]
  have hlen : s.data.toList.length = s.size := by simp
  by_cases h0 : s = ⟨#[]⟩
  · subst h0
    have hd : decide ((⟨#[]⟩ : ByteArray) = ⟨#[]⟩) = true := by simp
    refine hgo_sound 60 ?_
    simp -implicitDefEqProofs (maxSteps := 1000000) only [simpS, ↓condJ_true, ↓condJ_false, ↓reduceIte, Nat.reduceEqDiff, Nat.reduceLT, Nat.reduceLeDiff, reduceCtorEq, Nat.reduceAdd, Nat.reduceSub, noneS, listS, implies_true, forall_const, ne_eq, hd]
    exact fpost_pure (σ0 := σ) (.inr rfl) (by rw [hnx]; exact Nat.le_refl _) hwf (Sub.refl σ) rfl trivial trivial ⟨rfl, rfl⟩
  have hd : decide (s = ⟨#[]⟩) = false := by simp [h0]
  cases hl : s.data.toList with
  | nil =>
    exfalso
    apply h0
    cases s with
    | mk a => cases a with
      | mk l => simp at hl; rw [hl]
  | cons b bs =>
  have hsz : 0 < s.size := by rw [← hlen, hl]; simp
  have hsz2 : (0 : Int) < (s.size : Int) := by omega
  have hb : ((s.data.getD 0 0).toNat : Int) = (b.toNat : Int) := by
    have := byte_at s 0 hsz
    rw [this]
    simp [hl]
  have hw : isWord s = (decide (s.size ≤ 64) && (isLet b && (b :: bs).all insP)) := by unfold isWord; rw [hl]
  by_cases h64 : (s.size : Int) ≤ 64
  · have hd64 : decide ((s.size : Int) ≤ 64) = true := by simp [h64]
    have hdn : decide (s.size ≤ 64) = true := by simp; omega
    rw [hw, hdn, Bool.true_and]
    refine hgo_sound 60 ?_
    simp -implicitDefEqProofs (maxSteps := 1000000) only [simpS, ↓condJ_true, ↓condJ_false, ↓reduceIte, Nat.reduceEqDiff, Nat.reduceLT, Nat.reduceLeDiff, reduceCtorEq, Nat.reduceAdd, Nat.reduceSub, noneS, listS, implies_true, forall_const, ne_eq, hd, hd64, hsz2, hb, Int.toNat_zero, Int.le_refl, Int.reduceToNat]
    refine hx_call (f := .fn 58) rfl (by rw [hP]; exact hcallD_func (letter_calls b _)) ?_
    rintro _ σ2 ⟨rfl, h⟩
    subst σ2
    cases hbl : isLet b
    · refine hgo_sound 60 ?_
      simp -implicitDefEqProofs (maxSteps := 1000000) only [simpS, ↓condJ_true, ↓condJ_false, ↓reduceIte, Nat.reduceEqDiff, Nat.reduceLT, Nat.reduceLeDiff, reduceCtorEq, Nat.reduceAdd, Nat.reduceSub, noneS, listS, implies_true, forall_const, ne_eq]
      exact fpost_pure (σ0 := σ) (.inr rfl) (by rw [hnx]; exact Nat.le_refl _) hwf (Sub.refl σ) rfl trivial trivial ⟨rfl, rfl⟩
    · refine hgo_sound 60 ?_
      simp -implicitDefEqProofs (maxSteps := 1000000) only [simpS, ↓condJ_true, ↓condJ_false, ↓reduceIte, Nat.reduceEqDiff, Nat.reduceLT, Nat.reduceLeDiff, reduceCtorEq, Nat.reduceAdd, Nat.reduceSub, noneS, listS, implies_true, forall_const, ne_eq]
      refine hx_call (f := .fn 46) rfl (by rw [hP]; exact hcallD_func (run_calls s hs 0 70 insP (fun b σ => inside_calls b σ) _)) ?_
      rintro _ σ2 ⟨rfl, h⟩
      subst σ2
      rw [← hl]
      refine hgo_sound 60 ?_
      simp -implicitDefEqProofs (maxSteps := 1000000) only [simpS, ↓condJ_true, ↓condJ_false, ↓reduceIte, Nat.reduceEqDiff, Nat.reduceLT, Nat.reduceLeDiff, reduceCtorEq, Nat.reduceAdd, Nat.reduceSub, noneS, listS, implies_true, forall_const, ne_eq, runAt_all]
      exact fpost_pure (σ0 := σ) (.inr rfl) (by rw [hnx]; exact Nat.le_refl _) hwf (Sub.refl σ) rfl trivial trivial ⟨rfl, rfl⟩
  · have hd64 : decide ((s.size : Int) ≤ 64) = false := by simp; omega
    have hdn : decide (s.size ≤ 64) = false := by simp; omega
    rw [hw, hdn, Bool.false_and]
    refine hgo_sound 60 ?_
    simp -implicitDefEqProofs (maxSteps := 1000000) only [simpS, ↓condJ_true, ↓condJ_false, ↓reduceIte, Nat.reduceEqDiff, Nat.reduceLT, Nat.reduceLeDiff, reduceCtorEq, Nat.reduceAdd, Nat.reduceSub, noneS, listS, implies_true, forall_const, ne_eq, hd, hd64, hsz2, hb, Int.toNat_zero, Int.le_refl, Int.reduceToNat]
    exact fpost_pure (σ0 := σ) (.inr rfl) (by rw [hnx]; exact Nat.le_refl _) hwf (Sub.refl σ) rfl trivial trivial ⟨rfl, rfl⟩

end Go.Hl
