/-
  Regions that draw their order and whose effects are in no fixed order: what is known is told for each set of operations that are done.
-/
import Derived.Test.YteffbibilpbhjaaDoorHlP
set_option linter.unusedSectionVars false
set_option linter.unusedVariables false
namespace Go.Hl
open Go

def useV (nt : Nat) (env : Env) (V : Nat → D) (uses : List (Nat × Nat)) : Env := uses.map fun u => (u.1, if u.2 < nt then look env u.2 else V (u.2 - nt))

def upd {α : Type} (V : Nat → α) (i : Nat) (x : α) : Nat → α := fun j => if j = i then x else V j

structure DSt (M : Md) (D : List DI) (env : Env) (V : Nat → Go.Hl.D) (listed : Array Bool) (g : G) (w : World) (σ : St) (a : Act) : Prop where
  rl : Rl M g w σ [] a
  size : listed.size = D.length
  old : ∀ t, t < M.nt → (∀ (j : Nat) d, D[j]? = some d → d.dst = some t → listed.getD j true = false) → R g w (look env t) (a.tmps.getD t Go.undef)
  val : ∀ (j : Nat) d t, D[j]? = some d → d.dst = some t → listed.getD j true = true → R g w (V j) (a.tmps.getD t Go.undef)
  clos : ∀ (i j : Nat), i < D.length → listed.getD i true = true → (ancOf D i).testBit j = true → listed.getD j true = true ∧ j < D.length

section
variable {M : Md} {base : HPost} {kont : List It} {D : List DI} {env : Env} {σ : St}

theorem DSt.uses_ER {V : Nat → Go.Hl.D} {listed : Array Bool} {g : G} {w : World} {a : Act} (hdr : DSt M D env V listed g w σ a) {i : Nat} {d : DI} (hd : D[i]? = some d)
    (hu : listed.getD i true = false) (hpre : ∀ j, d.anc.testBit j = true → listed.getD j true = true ∧ j < D.length) (huse : (d.uses.all (useOk M.nt D i d.anc)) = true) : ER g w (useV M.nt env V d.uses) a.tmps := by
  have hi := (List.getElem?_eq_some_iff.1 hd).1
  have key : ∀ (us : List (Nat × Nat)), (∀ u ∈ us, useOk M.nt D i d.anc u = true) → ER g w (useV M.nt env V us) a.tmps := by
    intro us
    induction us with
    | nil => intro _ t; simp only [useV, List.map_nil, look, R]
    | cons u us ih =>
      intro h t
      simp only [useV, List.map_cons, look]
      split
      · rename_i e
        subst e
        have := h u (by simp)
        simp only [useOk] at this
        split at this
        · rename_i hlt
          simp only [Bool.and_eq_true, beq_iff_eq] at this
          obtain ⟨h1, hl⟩ := this
          rw [if_pos hlt, ← h1]
          refine hdr.old u.1 (by omega) fun j d' hj hdt => ?_
          rcases laterAll_spec hl hj hdt with e | e
          · simp only [Nat.zero_add] at e
            subst e
            exact hu
          · cases hlj : listed.getD j true
            · rfl
            · have hjl := (List.getElem?_eq_some_iff.1 hj).1
              have := (hdr.clos j i hjl hlj (by simp [ancOf, hj, e])).1
              rw [hu] at this
              cases this
        · rename_i hge
          simp only [Bool.and_eq_true, beq_iff_eq] at this
          obtain ⟨h1, h2⟩ := this
          rw [if_neg hge]
          cases hj : D[u.2 - M.nt]? with
          | none => simp [hj] at h1
          | some d' =>
            simp only [hj, Option.map_some, Option.some.injEq] at h1
            exact hdr.val (u.2 - M.nt) d' u.1 hj h1 (hpre _ h2).1
      · exact ih (fun v hv => h v (by simp [hv])) t
  exact key d.uses fun u hu => List.all_eq_true.1 huse u hu

theorem DSt.next {V : Nat → Go.Hl.D} {listed : Array Bool} {g g' : G} {w w' : World} {a : Act} {σ' : St} {i : Nat} {d : DI} {o : Oper} {x : Go.Hl.D} {v : Value} (hdr : DSt M D env V listed g w σ a) (hd : D[i]? = some d) (hdo : o.dst = d.dst)
    (hlt : (match d.dst with | some t => decide (t < M.nt) | none => true) = true) (hds : dstsOk (D.map (·.dst)) = true)
    (hu : listed.getD i true = false) (hpre : ∀ j, d.anc.testBit j = true → listed.getD j true = true ∧ j < D.length)
    (hE : E g w g' w') (hR : Rel M.P g' σ' w') (hv : R g' w' x v) :
    DSt M D env (upd V i x) (listed.setIfInBounds i true) g' w' σ' (a.put o.dst v) := by
  have hi := (List.getElem?_eq_some_iff.1 hd).1
  have his : i < listed.size := by rw [hdr.size]; exact hi
  have hlist : ∀ j, j ≠ i → (listed.setIfInBounds i true).getD j true = listed.getD j true := fun j hj => getD_set_ne true (Ne.symm hj)
  have hself : (listed.setIfInBounds i true).getD i true = true := getD_set_self true his
  have hput : ∀ t, t < M.nt → (a.put o.dst v).tmps.getD t Go.undef = if d.dst = some t then v else a.tmps.getD t Go.undef := by
    intro t ht
    rw [hdo]
    cases hdd : d.dst with
    | none => simp [Act.put]
    | some s =>
      simp only [Act.put, Option.some.injEq]
      split
      · rename_i e
        subst e
        rw [Array.getD_eq_getD_getElem?, Array.getElem?_setIfInBounds_self_of_lt (by rw [hdr.rl.nt]; exact ht)]
        rfl
      · rename_i e
        rw [Array.getD_eq_getD_getElem?, Array.getElem?_setIfInBounds_ne (fun h => e h), ← Array.getD_eq_getD_getElem?]
  refine ⟨?_, by simp [hdr.size], fun t ht hall => ?_, fun j dj t hj hdj hl => ?_, fun j1 j2 hj1 hl hb => ?_⟩
  · have hlt' : (match o.dst with | some t => decide (t < M.nt) | none => true) = true := by rw [hdo]; exact hlt
    have := hdr.rl.put (dst := o.dst) (d := .undef) hE hR (v := v) (by simp only [R]) hlt'
    refine ⟨this.gs, this.e, this.rel, fun t => by simp only [look, R], this.nt, this.defs, this.rnd⟩
  · have hne : ¬ d.dst = some t := fun e => by
      have := hall i d hd e
      rw [hself] at this
      cases this
    rw [hput t ht, if_neg hne]
    refine R.mono hE hdr.rl.rel.gw _ _ (hdr.old t ht fun j d' hj hdj => ?_)
    have := hall j d' hj hdj
    rwa [hlist j (fun e => by subst e; rw [hd] at hj; injection hj with hj; subst hj; exact hne hdj)] at this
  · by_cases e : j = i
    · subst e
      rw [hd] at hj
      injection hj with hj
      subst hj
      have htlt : t < M.nt := by rw [hdj] at hlt; simpa using hlt
      rw [hput t htlt, if_pos hdj]
      simpa only [upd, if_true] using hv
    · rw [hlist j e] at hl
      have hne : ¬ d.dst = some t := fun h => e (dstsOk_spec (t := t) hds (by simp [hj, hdj]) (by simp [hd, h]))
      have hR0 := hdr.val j dj t hj hdj hl
      simp only [upd, if_neg e]
      have : (a.put o.dst v).tmps.getD t Go.undef = a.tmps.getD t Go.undef := by
        rw [hdo]
        cases hdd : d.dst with
        | none => simp [Act.put]
        | some s =>
          simp only [Act.put]
          rw [Array.getD_eq_getD_getElem?, Array.getElem?_setIfInBounds_ne (fun h => hne (by rw [hdd, h])), ← Array.getD_eq_getD_getElem?]
      rw [this]
      exact R.mono hE hdr.rl.rel.gw _ _ hR0
  · by_cases e : j1 = i
    · subst e
      have hb' : d.anc.testBit j2 = true := by simpa [ancOf, hd] using hb
      obtain ⟨h1, h2⟩ := hpre j2 hb'
      refine ⟨?_, h2⟩
      by_cases e2 : j2 = j1
      · subst e2; exact hself
      · rw [hlist j2 e2]; exact h1
    · rw [hlist j1 e] at hl
      obtain ⟨h1, h2⟩ := hdr.clos j1 j2 hj1 hl hb
      refine ⟨?_, h2⟩
      by_cases e2 : j2 = i
      · subst e2; exact hself
      · rw [hlist j2 e2]; exact h1

end

theorem Ext.trans {a b c : St} (h : Ext a b) (k : Ext b c) : Ext a c :=
  ⟨Nat.le_trans h.next k.next, fun id hl => by rw [k.obj id (Nat.lt_of_lt_of_le hl h.next), h.obj id hl], by rw [k.glob, h.glob]⟩

def allW (env : Env) : Env → Prop
  | [] => True
  | (t, d) :: r => (∀ (g : G) (w : World) (v : Value), R g w (look env t) v → R g w d v) ∧ allW env r

theorem allW.look {env : Env} : ∀ {env' : Env}, allW env env' → ∀ (g : G) (w : World) (t : Nat) (v : Value), R g w (look env t) v → R g w (look env' t) v
  | [], _, g, w, t, v, _ => by simp only [Go.Hl.look, R]
  | (s, d) :: r, h, g, w, t, v, hr => by
    simp only [Go.Hl.look]
    split
    · rename_i e
      subst e
      exact h.1 g w v hr
    · exact allW.look h.2 g w t v hr

theorem R_nil_no {g : G} {w : World} {sz sz' : Nat} {v : Value} (h : R g w (.slice .nil sz []) v) : R g w (.slice .no sz' []) v := by
  have h := R_size (sz' := sz') (fun _ e => by cases e) h
  simp only [R] at h ⊢
  obtain ⟨A, cap, h1, h2, h3, _, h5⟩ := h
  exact ⟨A, cap, h1, h2, h3, trivial, h5⟩

end Go.Hl
