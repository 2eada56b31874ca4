/-
  Functions, ranges over a function, rounds.
-/
import Derived.Test.YtijcddlahidhhaaDoorHlJ
set_option linter.unusedSectionVars false
set_option linter.unusedVariables false
namespace Go.Hl
open Go

inductive HR where
  | tmp (t : Nat)
  | cell (t : Nat) (sz : Option Nat)

structure HF where
  nt : Nat
  res : List HR
  body : HC

def cmpRes (P : Program) : List ResultVar → List HR → Bool
  | [], [] => true
  | .tmp t :: rs, .tmp t' :: hs => t == t' && cmpRes P rs hs
  | .cell t ty :: rs, .cell t' s :: hs => t == t' && cmpShape P ty s && cmpRes P rs hs
  | _, _ => false

def cmpF (P : Program) (fn : Func) (h : HF) : Bool :=
  (match fn.body with | some c => cmpC P h.nt c h.body | none => false) && decide (max fn.params.size fn.ntmps = h.nt) && cmpRes P fn.results.toList h.res && !(fn.name == "runtime.NumGoroutine")

def resD (σ : St) (env : Env) : List HR → Option (List D × Prop)
  | [] => some ([], True)
  | .tmp t :: hs => match resD σ env hs with
    | some (ds, p) => some (look env t :: ds, p)
    | none => none
  | .cell t s :: hs => match hval σ (evX σ env) (.load s (.tmp t)), resD σ env hs with
    | some (d, p), some (ds, q) => some (d :: ds, p ∧ q)
    | _, _ => none

def tupD : List D → D
  | [d] => d
  | ds => .tuple ds

def argEnv : Nat → List D → Env
  | _, [] => []
  | i, d :: ds => (i, d) :: argEnv (i + 1) ds

section
variable {P : Program} {g : G} {σ : St} {w : World}

def resOne (tmps : Array Value) : ResultVar → Sem Value
  | .tmp t => pure (tmps.getD t Go.undef)
  | .cell a t => do loadVar t (← asAddr (tmps.getD a Go.undef))

theorem run_results {fn : Func} {h : List HR} {env : Env} {tmps : Array Value} {ds : List D} {p : Prop} (hrel : Rel P g σ w) (he : ER g w env tmps) (hc : cmpRes P fn.results.toList h = true)
    (hr : resD σ env h = some (ds, p)) (hp : p) : ∃ v, (results fn tmps).run P w = .ok v w ∧ R g w (tupD ds) v := by
  have key : ∀ {rs : List ResultVar} {h : List HR} {ds : List D} {p : Prop}, cmpRes P rs h = true → resD σ env h = some (ds, p) → p →
      ∃ vs : List Value, (rs.mapM (resOne tmps)).run P w = .ok vs w ∧ RL g w ds vs := by
    intro rs
    induction rs with
    | nil =>
      intro h ds p hc hr hp
      cases h with
      | nil =>
        simp only [resD, Option.some.injEq, Prod.mk.injEq] at hr
        obtain ⟨rfl, rfl⟩ := hr
        exact ⟨[], by simp, by simp only [RL]⟩
      | cons x xs => simp [cmpRes] at hc
    | cons r rs ih =>
      intro h ds p hc hr hp
      cases h with
      | nil => cases r <;> simp [cmpRes] at hc
      | cons x xs =>
        cases r with
        | tmp t =>
          cases x with
          | cell t' s => simp [cmpRes] at hc
          | tmp t' =>
            simp only [cmpRes, Bool.and_eq_true, beq_iff_eq] at hc
            obtain ⟨rfl, hc⟩ := hc
            simp only [resD] at hr
            split at hr; rotate_left; · cases hr
            rename_i ds' p' hr'
            simp only [Option.some.injEq, Prod.mk.injEq] at hr
            obtain ⟨rfl, rfl⟩ := hr
            obtain ⟨vs, h1, h2⟩ := ih hc hr' hp
            refine ⟨tmps.getD t Go.undef :: vs, ?_, ?_⟩
            · simp only [List.mapM_cons, Sem.run_bind, resOne, Sem.run_pure, Result.andThen_ok]
              rw [h1]
              rfl
            · simp only [RL]
              exact ⟨_, _, rfl, he t, h2⟩
        | cell t ty =>
          cases x with
          | tmp t' => simp [cmpRes] at hc
          | cell t' s =>
            simp only [cmpRes, Bool.and_eq_true, beq_iff_eq] at hc
            obtain ⟨⟨rfl, hsh⟩, hc⟩ := hc
            simp only [resD] at hr
            split at hr; rotate_left; · cases hr
            rename_i d1 p1 ds' p' hl hr'
            simp only [Option.some.injEq, Prod.mk.injEq] at hr
            obtain ⟨rfl, rfl⟩ := hr
            obtain ⟨vs, h1, h2⟩ := ih hc hr' hp.2
            obtain ⟨v, hv1, hv2⟩ := run_loadAt (a := ⟨tmps, []⟩) (y := .tmp t) (x := .tmp t) hrel he hsh (by simp [cmpX]) hl hp.1
            have hv1' : (do loadVar ty (← asAddr (tmps.getD t Go.undef)) : Sem Value).run P w = .ok v w := by
              have e : (⟨tmps, []⟩ : Act).eval (.tmp t) = tmps.getD t Go.undef := rfl
              rw [e] at hv1
              simp only [Instr.loadAt, Sem.run_bind] at hv1 ⊢
              cases hx : tmps.getD t Go.undef <;> rw [hx] at hv1 <;> simp [Instr.sureAddr] at hv1
              rename_i q
              cases q with
              | none => simp at hv1
              | some q => simpa [asAddr] using hv1
            refine ⟨v :: vs, ?_, ?_⟩
            · simp only [List.mapM_cons]
              rw [Sem.run_bind, show resOne tmps (.cell t ty) = (do loadVar ty (← asAddr (tmps.getD t Go.undef)) : Sem Value) from rfl, hv1']
              simp only [Result.andThen_ok, Sem.run_bind]
              rw [h1]
              rfl
            · simp only [RL]
              exact ⟨_, _, rfl, hv2, h2⟩
  obtain ⟨vs, h1, h2⟩ := key hc hr hp
  have hlen := h2.length
  have hm : (fn.results.mapM (resOne tmps)).run P w = .ok vs.toArray w := by
    rw [Array.mapM_eq_mapM_toList, Sem.run_map, h1]
    rfl
  have hres : results fn tmps = (do let vs ← fn.results.mapM (resOne tmps); pure (if h : vs.size = 1 then vs[0] else .tuple vs)) := rfl
  rw [hres, Sem.run_bind, hm]
  simp only [Result.andThen_ok, Sem.run_pure]
  refine ⟨_, rfl, ?_⟩
  cases ds with
  | nil =>
    have : vs = [] := List.eq_nil_of_length_eq_zero (by simpa using hlen)
    subst this
    simp only [tupD, R]
    exact ⟨#[], rfl, by simp only [RL]⟩
  | cons d ds =>
    cases ds with
    | nil =>
      simp only [RL] at h2
      obtain ⟨u, us, rfl, hu, rfl⟩ := h2
      simpa [tupD] using hu
    | cons d2 ds2 =>
      have hne : ¬ vs.toArray.size = 1 := by simp at hlen ⊢; omega
      simp only [tupD, R]
      rw [dif_neg hne]
      exact ⟨_, rfl, h2⟩

theorem look_argEnv : ∀ (ds : List D) (i t : Nat), look (argEnv i ds) t = if i ≤ t then ds.getD (t - i) .undef else .undef
  | [], i, t => by simp [argEnv, look]
  | d :: ds, i, t => by
    simp only [argEnv, look]
    rw [look_argEnv ds (i + 1) t]
    by_cases h : i = t
    · subst h; simp
    · rw [if_neg h]
      by_cases h2 : i ≤ t
      · rw [if_pos h2, if_pos (by omega), show t - i = t - (i + 1) + 1 by omega]
        simp
      · rw [if_neg h2, if_neg (by omega)]

theorem argEnv_ER {args : List D} {vs : List Value} {tmps : Array Value} (h : RL g w args vs) (ht : ∀ (i : Nat) v, vs[i]? = some v → tmps.getD i Go.undef = v) : ER g w (argEnv 0 args) tmps := fun t => by
  rw [look_argEnv, if_pos (Nat.zero_le _), Nat.sub_zero]
  by_cases hl : t < args.length
  · obtain ⟨u, hu, hr⟩ := h.get (List.getElem?_eq_getElem hl)
    rw [List.getD, List.getElem?_eq_getElem hl, ht t u hu]
    exact hr
  · rw [List.getD, List.getElem?_eq_none (by omega)]
    simp only [Option.getD_none, R]

theorem take_ev {b : Nat} {o o' : Obj} (hgw : GW g w) (hb : w.heap[b]? = some o) (ho : ∀ c e z, o ≠ .cells c e z) :
    Ev g w g { w with heap := w.heap.setIfInBounds b o' } := by
  have hne : ∀ k, k ≠ b → ({ w with heap := w.heap.setIfInBounds b o' } : World).heap[k]? = w.heap[k]? := fun k hk => by
    simp only
    rw [Array.getElem?_setIfInBounds_ne (fun h => hk h.symm)]
  refine ⟨fun {b' o'' v} hi => ?_, fun _ _ h _ => h, Nat.le_refl _, fun _ h _ hh => ⟨h, 0, hh, .refl _⟩, fun {sz len A cap ow} hown => ?_⟩
  · obtain ⟨⟨c, e, z, h1, h2⟩, h3⟩ := hi
    refine ⟨⟨c, e, z, ?_, h2⟩, h3⟩
    rw [hne b' (fun eq => by subst eq; rw [hb] at h1; injection h1 with h1; exact ho _ _ _ h1)]
    exact h1
  · cases ow with
    | no => trivial
    | nil => exact hown
    | full => exact hown
    | tok t =>
      refine ⟨hown.1, fun k hat => ?_⟩
      have hk := hown.2 k hat
      cases k with
      | arr b' f n e =>
        refine ⟨hk.1, fun hn => ?_⟩
        obtain ⟨off, c, z, h1, h0, h2, h3, h4⟩ := hk.2 hn
        exact ⟨off, c, z, h1, h0, h2, by rw [hne b' (fun eq => by subst eq; rw [hb] at h3; injection h3 with h3; exact ho _ _ _ h3)]; exact h3, h4⟩
      | full n e => exact hk
      | _ => trivial

theorem GL.ev {g : G} {w : World} {b : Nat} {o o' : Obj} (h : Ev g w g { w with heap := w.heap.setIfInBounds b o' }) (hb : w.heap[b]? = some o) (ho : ∀ c e z, o ≠ .cells c e z) {cs : List D} {k : Nat} (hl : GL g w cs k) :
    GL g { w with heap := w.heap.setIfInBounds b o' } cs k := by
  obtain ⟨⟨c, e, z, hh, hc⟩, hf⟩ := hl
  refine ⟨⟨c, e, z, ?_, RC.ev h _ _ hc⟩, hf⟩
  simp only
  rw [Array.getElem?_setIfInBounds_ne (fun q => by subst q; rw [hb] at hh; injection hh with hh; exact ho _ _ _ hh)]
  exact hh

theorem take_rel {b : Nat} {o o' : Obj} (hrel : Rel P g σ w) (hb : w.heap[b]? = some o) (ho : ∀ c e z, o ≠ .cells c e z) (hu : ∀ id h, g.at_ id = some h → h.block ≠ some b) :
    Rel P g σ { w with heap := w.heap.setIfInBounds b o' } := by
  have hne : ∀ id h k, g.at_ id = some h → h.block = some k → ({ w with heap := w.heap.setIfInBounds b o' } : World).heap[k]? = w.heap[k]? := fun id h k ha hk => by
    simp only
    rw [Array.getElem?_setIfInBounds_ne (fun e => hu id h ha (by rw [hk, e]))]
  have hev := take_ev (o' := o') hrel.gw hb ho
  refine ⟨⟨hrel.gw.lt, fun id h k ha hk => by simpa using hrel.gw.bl id h k ha hk, hrel.gw.inj, fun t b' f n e ha => ?_⟩, hrel.next, fun id ob hob => ?_, fun k cs hc => GL.ev hev (o' := o') hb ho (hrel.glob k cs hc)⟩
  · rw [hne t _ b' ha rfl]
    exact hrel.gw.arr t b' f n e ha
  · have hro := hrel.obj id ob hob
    cases ob with
    | bx t cs =>
      obtain ⟨b', c, e, ha, hh, hc, ht⟩ := hro
      exact ⟨b', c, e, ha, by rw [hne id _ b' ha rfl]; exact hh, RC.ev hev _ _ hc, ht⟩
    | tok e n => exact hro
    | tokF e n => exact hro
    | vec k sz xs =>
      obtain ⟨b', off, cap, c, e, ha, hh, h1, h2, h3, hR⟩ := hro
      exact ⟨b', off, cap, c, e, ha, by rw [hne id _ b' ha rfl]; exact hh, h1, h2, h3, RC.ev hev _ _ hR⟩
    | loop nt env ps asg body st =>
      obtain ⟨l, r, ha, hh, h1, h2, h3, h4, he, h6, h7⟩ := hro
      exact ⟨l, r, ha, by rw [hne id _ l ha rfl]; exact hh, h1, h2, h3, h4, fun t => R.ev hev _ _ (he t), h6, h7⟩

theorem take_E {gS : G} {wS : World} {b : Nat} {o' : Obj} (h : E gS wS g w) (hge : wS.heap.size ≤ b) (hs : GW gS wS) (hu : ∀ id h, g.at_ id = some h → h.block ≠ some b) :
    E gS wS g { w with heap := w.heap.setIfInBounds b o' } := by
  have hne : ∀ k, k ≠ b → ({ w with heap := w.heap.setIfInBounds b o' } : World).heap[k]? = w.heap[k]? := fun k hk => by
    simp only
    rw [Array.getElem?_setIfInBounds_ne (fun h => hk h.symm)]
  exact ⟨h.out.trans ⟨rfl, rfl, rfl⟩, h.next, by simpa using h.size, h.old, h.keep, h.new, fun b0 hlt hu0 => by rw [hne b0 (by omega)]; exact h.still b0 hlt hu0,
    fun t b0 f n e0 c e z ht hc => by
      have := hs.bl t _ b0 ht rfl
      rw [hne b0 (by omega)]
      exact h.arr t b0 f n e0 c e z ht hc⟩

theorem run_takeDeferred {b : Nat} (hb : w.heap[b]? = some (.deferred (some []))) : (Instr.takeDeferred b).run P w = .ok [] { w with heap := w.heap.setIfInBounds b (.deferred none) } := by
  simp [Instr.takeDeferred, getObj, setObj, Sem.run, hb]

theorem Ev.trans {g1 g2 : G} {w1 w2 : World} (a : Ev g w g1 w1) (b : Ev g1 w1 g2 w2) : Ev g w g2 w2 :=
  ⟨fun h => b.imm (a.imm h), fun id h k n => b.keep id h (a.keep id h k n) n, Nat.le_trans a.next b.next, fun id h2 hl k2 => by
    obtain ⟨h1, s1, k1, m1⟩ := b.old id h2 (Nat.lt_of_lt_of_le hl a.next) k2
    obtain ⟨h0, s0, k0, m0⟩ := a.old id h1 hl k1
    refine ⟨h0, min s0 s1, k0, Mv.trans (s := min s0 s1) (s1 := s1) (Nat.min_le_right ..) (m0.weak (Nat.min_le_left ..)) m1⟩, fun h => b.own (a.own h)⟩

theorem leaves {fn : Func} {gS : G} {wS : World} {tmps : Array Value} {Q : D → St → Prop} (hs : GW gS wS) : ∀ {ds : List Deferred} {w : World}, E gS wS g w → Rel P g σ w → DefsOk wS.heap.size g w ds →
    (∀ w', E gS wS g w' → Rel P g σ w' → Ev g w g w' → ∃ v, (results fn tmps).run P w' = .ok v w' ∧ HRet P gS wS Q (.returned v) w') → LeavesInM Fence.wide 0 P fn tmps (HRet P gS wS Q) ds .returning w
  | [], w, hE, hrel, hd, hres => by
    obtain ⟨v, h1, h2⟩ := hres w hE hrel ⟨fun h => h, fun _ _ h _ => h, Nat.le_refl _, fun _ h _ hh => ⟨h, 0, hh, .refl _⟩, fun h => h⟩
    exact ⟨v, h1, h2⟩
  | d0 :: ds, w, hE, hrel, hd, hres => by
    obtain ⟨bs, h1, h2, h3⟩ := hd
    cases bs with
    | nil => simp at h1
    | cons b bs =>
      simp only [List.map_cons, List.cons.injEq] at h1
      obtain ⟨rfl, rfl⟩ := h1
      obtain ⟨k1, k2, k3⟩ := h3 b (by simp)
      rw [List.nodup_cons] at h2
      have hne : ∀ k, k ≠ b → ({ w with heap := w.heap.setIfInBounds b (.deferred none) } : World).heap[k]? = w.heap[k]? := fun k hk => by
        simp only
        rw [Array.getElem?_setIfInBounds_ne (fun h => hk h.symm)]
      have hev := take_ev (o' := .deferred none) hrel.gw k2 (fun _ _ _ => by simp)
      refine ⟨by simp, .inl ⟨b, _, rfl, run_takeDeferred k2, leaves hs (take_E hE k1 hs k3) (take_rel hrel k2 (fun _ _ _ => by simp) k3) ⟨bs, rfl, h2.2, fun b' hb' => ?_⟩ (fun w' he' hr' hev' => hres w' he' hr' (hev.trans hev'))⟩⟩
      obtain ⟨j1, j2, j3⟩ := h3 b' (by simp [hb'])
      exact ⟨j1, by rw [hne b' (fun e => by subst e; exact h2.1 hb')]; exact j2, j3⟩

def FPost (n0 : Nat) (res : List HR) (Q : D → St → Prop) : HPost := fun e env σ =>
  (e = .normal ∨ e = .ret) ∧ (σ.wf → (∀ t, (look env t).lt σ.next) → n0 ≤ σ.next → ∃ ds p F st σ', resD σ env res = some (ds, p) ∧ p ∧ (∀ id cs, F id = some cs → σ'.next ≤ id ∧ σ.obj id = some (.box cs)) ∧
    (frzD F st (tupD ds)).lt σ'.next ∧ Drop n0 [] σ' env σ ∧ ∃ d, Wk (frzD F st (tupD ds)) d ∧ Q d σ')

theorem callFunc_body {f : Nat} {fn : Func} {args : Array Value} (hf : P.funcs[f]? = some fn) (hn : (!(fn.name == "runtime.NumGoroutine")) = true) (hb : fn.body.isSome = true) : (callFunc f args).run P w = .ok (.enter f args) w := by
  have h1 : (fn.name == "runtime.NumGoroutine") = false := by simpa using hn
  have h2 : fn.body.isNone = false := by cases hbb : fn.body <;> simp_all
  simp only [callFunc, Sem.run_bind, run_program, Result.andThen_ok, hf, h1, h2, Bool.false_eq_true, if_false, Sem.run_pure]

theorem hcalls_body {f : Nat} {fn : Func} {h : HF} {args : List D} {σ : St} {Q : D → St → Prop} (hf : P.funcs[f]? = some fn) (hc : cmpF P fn h = true) (hlen : args.length ≤ h.nt) (hnt : args.length + (fn.ntmps - args.length) = h.nt)
    (body : ∀ M : Md, M.P = P → M.r = none → M.nt = h.nt → M.gS.next = σ.next → σ.wf → ltL σ.next args → HX M (FPost M.gS.next h.res Q) [.code h.body] (argEnv 0 args) σ) : HCalls P f args σ Q := by
  intro g w vs hrel hl
  unfold cmpF at hc
  simp only [Bool.and_eq_true] at hc
  obtain ⟨⟨⟨h1, h2⟩, h3⟩, h4⟩ := hc
  split at h1; rotate_left; · cases h1
  rename_i c hb
  rw [callFunc_body hf h4 (by rw [hb]; rfl)]
  refine callsIn_of_wp_marks hf hb trivial ?_
  have hvl := hl.length
  have hwalk := body { P := P, nt := h.nt, r := none, gS := g, wS := w } rfl rfl rfl hrel.next.symm hrel.wf (by rw [hrel.next]; exact RL_lt hrel.gw _ _ hl) c h1 g w
    { tmps := vs.toArray ++ Array.replicate (fn.ntmps - vs.toArray.size) Go.undef, defers := [] }
    { gs := hrel.gw
      e := E.refl g w hrel.gw
      rel := hrel
      er := argEnv_ER hl fun i v hv => by
        have hi : i < vs.length := by
          rcases Nat.lt_or_ge i vs.length with h' | h'
          · exact h'
          · rw [List.getElem?_eq_none h'] at hv; cases hv
        rw [Array.getD_eq_getD_getElem?, Array.getElem?_append_left (by simpa using hi)]
        simp [hv]
      nt := by simp [hvl]; exact hnt
      defs := DefsOk.nil _ _ _
      rnd := fun _ _ h => by cases h }
  refine wpIn_mono hwalk ?_
  rintro e a' w' ⟨g', env', σ', hr', he, hfin⟩
  obtain ⟨ds, p, F, st, σ2, hres, hp, hF, hdl, hdrop, d2, hwk, hq⟩ := hfin hr'.rel.wf (fun t => by rw [hr'.rel.next]; exact R_lt hr'.rel.gw _ _ (hr'.er t)) (by rw [hr'.rel.next]; exact hr'.e.next)
  have hleave : LeavesInM Fence.wide 0 P fn a'.tmps (HRet P g w Q) a'.defers .returning w' := by
    refine leaves hr'.gs hr'.e hr'.rel hr'.defs fun w2 hE2 hrel2 hev => ?_
    obtain ⟨v, hv1, hv2⟩ := run_results hrel2 (fun t => R.ev hev _ _ (hr'.er t)) h3 hres hp
    exact ⟨v, hv1, _, g'.cut σ2.next, σ2, hE2.cut hr'.gs hdrop.n0, hrel2.cut hdrop.wf hdrop.same hdrop.glob, hwk _ _ _ (R_frz hrel2 hF _ _ hdl hv2), hq⟩
  rcases he with rfl | rfl <;> exact hleave

end
end Go.Hl
