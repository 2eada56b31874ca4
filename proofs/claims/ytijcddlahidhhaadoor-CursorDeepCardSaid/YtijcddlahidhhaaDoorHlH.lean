/-
  The rules of a walk: operations, calls, loops, ranges over a function, functions.
-/
import Derived.Test.YtijcddlahidhhaaDoorHlG
set_option linter.unusedSectionVars false
set_option linter.unusedVariables false
namespace Go.Hl
open Go

section
variable {M : Md} {base : HPost} {k : List It} {env : Env} {σ : St}

theorem not_defer {P : Program} {nt : Nat} {ops : Array Oper} {o : Oper} {h : HI} (hc : cmpOp P nt ops o h = true) : ∀ c, o.op ≠ .defer c := by
  intro c he
  obtain ⟨dst, op, type, pos, after, guard⟩ := o
  simp only at he
  subst he
  obtain ⟨d, gd, op⟩ := h
  cases op <;> simp [cmpOp, cmpHV, cmpHS, cmpCall] at hc

theorem wpIn_value {o : Oper} {a : Act} {w w' : World} {v : Value} {next : Act → World → Prop} {Q : Exit → Act → World → Prop} (hnd : ∀ c, o.op ≠ .defer c)
    (hr : (execOp a.eval o).run M.P w = .ok (.value v) w' ∨ ((execOp a.eval o).run M.P w = .ok .skip w' ∧ v = Go.undef)) (hn : next (a.put o.dst v) w') : o.wpIn M.F 0 M.P a w next Q := by
  refine ⟨fun f _ => M.F_fn f, ?_⟩
  rw [Oper.semAt_eq _ _ _ hnd]
  rcases hr with hr | ⟨hr, rfl⟩ <;> rw [hr] <;> exact hn

theorem cmpOp_parts {P : Program} {nt : Nat} {ops : Array Oper} {o : Oper} {h : HI} (hc : cmpOp P nt ops o h = true) :
    o.dst = h.dst ∧ (match h.dst with | some t => decide (t < nt) | none => true) = true ∧ cmpGuard ops o h = true ∧
      (match h.op with | .call f args => cmpCall o f args | _ => cmpHV P o h.op || cmpHS P o h.op) = true := by
  unfold cmpOp at hc
  rw [Bool.and_eq_true, Bool.and_eq_true, Bool.and_eq_true] at hc
  exact ⟨by simpa using hc.1.1.1, hc.1.1.2, hc.1.2, hc.2⟩

theorem hx_op {h : HI} {l : List HI} {d : D} {σ' : St} {p : Prop} (hg : guardB env h.guard = some true) (hs : hstep σ (evX σ env) h.op = some (d, σ', p)) (hp : p)
    (hn : HX M base (.ops l :: k) (putO env h.dst d) σ') : HX M base (.ops (h :: l) :: k) env σ := by
  intro ops i hc g w a hr
  have hk : isKill h.op = false := by
    cases hh : h.op <;> first
      | rfl
      | (rw [hh] at hs; simp [hstep, hval] at hs)
  have hnc : ∀ f args, h.op ≠ .call f args := fun f args e => by rw [e] at hs; simp [hstep, hval] at hs
  obtain ⟨o, hlt, ho, hco, hcs⟩ := cmpOps_cons hk hc
  obtain ⟨h1, h2, h3, h4⟩ := cmpOp_parts hco
  have h4' : (cmpHV M.P o h.op || cmpHS M.P o h.op) = true := by
    split at h4
    · rename_i f args e; exact absurd e (hnc f args)
    · exact h4
  rw [range'_step hlt]
  simp only [wpOpsIn, ho]
  rw [if_pos (wanted_of hr.er h3 hg)]
  obtain ⟨v, w', g', hrun, hE, hR, hd⟩ := hstep_run hr.rel hr.er h4' hs hp
  refine wpIn_value (not_defer hco) hrun ?_
  rw [h1]
  exact hn ops (i + 1) hcs g' w' _ (hr.put hE hR hd h2)

theorem hx_op_not {h : HI} {l : List HI} (hk : isKill h.op = false) (hg : guardB env h.guard = some false)
    (hn : HX M base (.ops l :: k) (putO env h.dst .dead) σ) : HX M base (.ops (h :: l) :: k) env σ := by
  intro ops i hc g w a hr
  obtain ⟨o, hlt, ho, hco, hcs⟩ := cmpOps_cons hk hc
  obtain ⟨h1, h2, h3, h4⟩ := cmpOp_parts hco
  rw [range'_step hlt]
  simp only [wpOpsIn, ho]
  rw [if_neg (by rw [wanted_of hr.er h3 hg]; decide)]
  refine ⟨fun f _ => M.F_fn f, ?_⟩
  rw [h1]
  exact hn ops (i + 1) hcs g w _ (hr.put (E.refl g w hr.rel.gw) hr.rel (by simp only [R]) h2)

theorem uponIn_of_next {o : Oper} {a : Act} {next : Act → World → Prop} {Q : Exit → Act → World → Prop} {r : Result Next} {R : Ending → World → Prop} (h : NextOk M.P R r)
    (hr : ∀ e w, R e w → ∃ v, e = .returned v ∧ next (a.put o.dst v) w) : o.uponIn M.F 0 M.P a next Q r := by
  have hd : M.F.depth.isSome = true → 1 ≤ 0 := fun h => by rw [M.F_depth] at h; cases h
  cases r with
  | halt h' w => exact h.elim
  | ok n w =>
    cases n <;> simp only [NextOk] at h <;> simp only [Oper.uponIn]
    case value v =>
      obtain ⟨v', e, hn⟩ := hr _ _ h
      injection e with e
      subst e
      exact hn
    case enter f args =>
      refine ⟨hd, (callsIn_F M h).mono fun e w' hR => ?_⟩
      obtain ⟨v', rfl, hn⟩ := hr _ _ hR
      exact hn
    case row row args =>
      refine ⟨hd, (rowsIn_F M h).mono fun v w' hR => ?_⟩
      obtain ⟨v', e, hn⟩ := hr _ _ hR
      injection e with e
      subst e
      exact hn
    case round l f t as b =>
      refine ⟨hd, (roundIn_F M h).mono fun e w' hR => ?_⟩
      obtain ⟨v', rfl, hn⟩ := hr _ _ hR
      exact hn

theorem hx_call {dst : Option Nat} {gd : Option (Nat × Bool)} {f : X} {args : List X} {l : List HI} {Q : D → St → Prop} (hg : guardB env gd = some true)
    (hcall : HCallD M.P (evX σ env f) (args.map (evX σ env)) σ Q) (hn : ∀ d σ', Q d σ' → HX M base (.ops l :: k) (putO env dst d) σ') :
    HX M base (.ops (⟨dst, gd, .call f args⟩ :: l) :: k) env σ := by
  intro ops i hc g w a hr
  obtain ⟨o, hlt, ho, hco, hcs⟩ := cmpOps_cons rfl hc
  obtain ⟨h1, h2, h3, h4⟩ := cmpOp_parts hco
  rw [range'_step hlt]
  simp only [wpOpsIn, ho]
  rw [if_pos (wanted_of hr.er h3 hg)]
  refine ⟨fun f _ => M.F_fn f, ?_⟩
  rw [Oper.semAt_eq _ _ _ (not_defer hco)]
  obtain ⟨dst', op, type, pos, after, guard⟩ := o
  simp only at h4 h1
  unfold cmpCall at h4
  split at h4; rotate_left; · cases h4
  rename_i c hop
  split at h4; rotate_left; · cases h4
  rename_i f' hcal
  simp only at hop
  subst hop
  simp only [Bool.and_eq_true] at h4
  obtain ⟨h4, h5⟩ := h4
  obtain ⟨fn, cap, hv, hnext⟩ := hcall g w _ _ hr.rel (evX_R hr.rel hr.er h4) (evXs_RL hr.rel hr.er h5)
  have hrun : (execOp a.eval { dst := dst', op := .call c, type := type, pos := pos, after := after, guard := guard }).run M.P w = (invoke (.fn fn cap) (c.args.toList.map a.eval).toArray).run M.P w := by
    have e : #[] ++ Array.map a.eval c.args = (c.args.toList.map a.eval).toArray := by
      apply Array.ext'
      simp
    simp only [execOp, resolve, hcal, Deferred.ofValue, hv, Sem.run_bind, Sem.run_pure, Result.andThen_ok, e]
  rw [hrun]
  refine uponIn_of_next hnext ?_
  intro e w' he
  cases e <;> simp only [HRet] at he
  obtain ⟨d, g', σ', hE, hR, hd, hq⟩ := he
  refine ⟨_, rfl, ?_⟩
  simp only [h1]
  exact hn d σ' hq ops (i + 1) hcs g' w' _ (hr.put hE hR hd h2)

def leE (env' env : Env) : Prop := ∀ t, look env' t = .undef ∨ look env' t = look env t

theorem ER.le {g : G} {w : World} {env' : Env} {tmps : Array Value} (h : ER g w env tmps) (hl : leE env' env) : ER g w env' tmps := fun t => by
  rcases hl t with e | e <;> rw [e]
  · simp only [R]
  · exact h t

end
end Go.Hl
