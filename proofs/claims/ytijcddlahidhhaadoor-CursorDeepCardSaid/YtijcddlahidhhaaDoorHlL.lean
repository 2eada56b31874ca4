/-
  A range over a function; a round.
-/
import Derived.Test.YtijcddlahidhhaaDoorHlK
set_option linter.unusedSectionVars false
set_option linter.unusedVariables false
set_option linter.unusedSimpArgs false
namespace Go.Hl
open Go

section
variable {P : Program} {g : G} {σ : St} {w : World}

theorem obj_rel {id l : Nat} {o o' : Obj} (hrel : Rel P g σ w) (ha : g.at_ id = some (.loop l)) (hl : w.heap[l]? = some o) (ho : ∀ c e z, o ≠ .cells c e z) {σ' : St} (hn : σ'.next = σ.next) (hgl : σ'.glob = σ.glob)
    (hobj : ∀ j ob, j ≠ id → σ'.obj j = some ob → σ.obj j = some ob) (hid : ∀ ob, σ'.obj id = some ob → Ev g w g { w with heap := w.heap.setIfInBounds l o' } → RO P g { w with heap := w.heap.setIfInBounds l o' } id ob) :
    Rel P g σ' { w with heap := w.heap.setIfInBounds l o' } := by
  have hne : ∀ j h k, j ≠ id → g.at_ j = some h → h.block = some k → ({ w with heap := w.heap.setIfInBounds l o' } : World).heap[k]? = w.heap[k]? := fun j h k hj hh hk => by
    simp only
    rw [Array.getElem?_setIfInBounds_ne (fun e => hj (hrel.gw.inj j id h _ k hh ha hk (by rw [← e]; rfl)))]
  have hev := take_ev (o' := o') hrel.gw hl ho
  refine ⟨⟨hrel.gw.lt, fun id h k ha hk => by simpa using hrel.gw.bl id h k ha hk, hrel.gw.inj, fun t b' f n e hat => ?_⟩, by rw [hn, hrel.next], fun j ob hob => ?_, fun k cs hc => GL.ev hev (o' := o') hl ho (hrel.glob k cs (by rw [← hgl]; exact hc))⟩
  · rw [hne t _ b' (fun e => by subst e; rw [ha] at hat; cases hat) hat rfl]
    exact hrel.gw.arr t b' f n e hat
  · by_cases hj : j = id
    · subst hj
      exact hid ob hob hev
    · have hro := hrel.obj j ob (hobj j ob hj hob)
      cases ob with
      | bx t cs =>
        obtain ⟨b', c, e, hat, hh, hc, ht⟩ := hro
        exact ⟨b', c, e, hat, by rw [hne j _ b' hj hat rfl]; exact hh, RC.ev hev _ _ hc, ht⟩
      | tok e n => exact hro
      | tokF e n => exact hro
      | vec k sz xs =>
        obtain ⟨b', off, cap, c, e, hat, hh, h1, h2, h3, hR⟩ := hro
        exact ⟨b', off, cap, c, e, hat, by rw [hne j _ b' hj hat rfl]; exact hh, h1, h2, h3, RC.ev hev _ _ hR⟩
      | loop nt env ps asg body st =>
        obtain ⟨l', r, hat, hh, h1, h2, h3, h4, he, h6, h7⟩ := hro
        exact ⟨l', r, hat, by rw [hne j _ l' hj hat rfl]; exact hh, h1, h2, h3, h4, fun t => R.ev hev _ _ (he t), h6, h7⟩

theorem obj_E {id l : Nat} {o o' : Obj} (hg : GW g w) (ha : g.at_ id = some (.loop l)) (hl : w.heap[l]? = some o) (ho : ∀ c e z, o ≠ .cells c e z) : E g w g { w with heap := w.heap.setIfInBounds l o' } := by
  have hne : ∀ k, k ≠ l → ({ w with heap := w.heap.setIfInBounds l o' } : World).heap[k]? = w.heap[k]? := fun k hk => by
    simp only
    rw [Array.getElem?_setIfInBounds_ne (fun h => hk h.symm)]
  exact {
    out := ⟨rfl, rfl, rfl⟩
    next := Nat.le_refl _
    size := by simp
    old := fun _ h _ k => ⟨h, k, .refl _⟩
    keep := fun _ _ h _ => h
    new := fun id h hle ha => absurd (hg.lt id h ha) (by omega)
    still := fun b _ hu => hne b (fun e => hu id _ ha (by rw [e]; rfl))
    arr := fun t b f n e0 c e z ht hc => ⟨c, z, by
      rw [hne b (fun eb => by
        subst eb
        rw [hl] at hc
        injection hc with hc
        exact ho _ _ _ hc)]
      exact hc, rfl, fun _ _ => rfl⟩ }

end

section
variable {M : Md} {base : HPost} {k : List It} {env : Env} {σ : St}

theorem Rl.goes {g g' : G} {w w' : World} {σ' : St} {a : Act} (hr : Rl M g w σ env a) (hE : E g w g' w') (hR : Rel M.P g' σ' w') : Rl M g' w' σ' env a :=
  hr.put (dst := none) (v := Go.undef) (d := .undef) hE hR (by simp only [R]) rfl

def hasBody (P : Program) (f : Nat) : Bool :=
  match P.funcs[f]? with
  | some fn => fn.body.isSome && !(fn.name == "runtime.NumGoroutine")
  | none => false

theorem callFunc_has {P : Program} {f : Nat} {args : Array Value} {w : World} (h : hasBody P f = true) : (callFunc f args).run P w = .ok (.enter f args) w := by
  unfold hasBody at h
  split at h
  · rename_i fn hf
    simp only [Bool.and_eq_true] at h
    exact callFunc_body hf h.2 h.1
  · cases h

theorem enterLoop_outer (P : Program) (w : World) (fn : FuncId) (tmps : Array Value) (ps : Array Tmp) (as b : Code) :
    (Instr.enterLoop fn tmps ps as b none).run P w = .ok (w.heap.size + 1, [mkDef w.heap.size])
      ((w.alloc (.deferred (some []))).alloc (.loop { state := .ready, pending := none, fn := fn, tmps := tmps, params := ps, assign := as, body := b, defers := w.heap.size })) := by
  simp [Instr.enterLoop, mkDef]

theorem enterLoop_inner (P : Program) (w : World) (fn : FuncId) (tmps : Array Value) (ps : Array Tmp) (as b : Code) {l0 : Nat} {r0 : Loop} (h : w.heap[l0]? = some (.loop r0)) :
    (Instr.enterLoop fn tmps ps as b (some l0)).run P w = .ok (w.heap.size, [])
      (w.alloc (.loop { state := .ready, pending := none, fn := fn, tmps := tmps, params := ps, assign := as, body := b, defers := r0.defers })) := by
  simp [Instr.enterLoop, Instr.getLoop, getObj, Sem.run, h]

theorem mkDef_inj : ∀ {bs cs : List Nat}, bs.map mkDef = cs.map mkDef → bs = cs
  | [], [], _ => rfl
  | [], _ :: _, h => by simp at h
  | _ :: _, [], h => by simp at h
  | b :: bs, c :: cs, h => by
    simp only [List.map_cons, List.cons.injEq, mkDef, Deferred.mk.injEq, Target.collected.injEq] at h
    rw [h.1.1, mkDef_inj h.2]

def RangeGoes (M : Md) (base : HPost) (k : List It) (env : Env) (ps : List Nat) (asg body : HC) (id : Nat) (σ' : St) : Prop :=
  ∃ st, σ'.obj id = some (.loop M.nt env ps asg body st) ∧ match st with
    | .ready => HX M base k env (σ'.del id)
    | .done j => HX M base (.code j :: k) env (σ'.del id)
    | .busy => False

theorem hx_range {f : X} {ps : List Nat} {asg body : HC} {fn : Nat} {caps : List D} (hf : evX σ env f = .func fn caps) (hbody : hasBody M.P fn = true)
    (hin : ∀ id l, M.r = some (id, l) → ∃ nt e p a b st, σ.obj id = some (.loop nt e p a b st))
    (hcall : HCalls M.P fn (.yld σ.next :: caps) (σ.new (.loop M.nt env ps asg body .ready)) (fun _ σ' => RangeGoes M base k env ps asg body σ.next σ')) :
    HX M base (.code (.range f ps asg body) :: k) env σ := by
  intro c hc g w a hr
  obtain ⟨f', ps', asg', body', rfl, hcx, hps, hca, hcb⟩ : ∃ f' ps' asg' body', c = .rangeFunc f' ps' asg' body' ∧ cmpX f' f = true ∧ ps'.toList = ps ∧ cmpC M.P M.nt asg' asg = true ∧ cmpC M.P M.nt body' body = true := by
    cases c <;> first
      | (simp [cmpC] at hc; done)
      | skip
    rename_i f' ps' asg' body'
    simp only [cmpC, Bool.and_eq_true, decide_eq_true_eq] at hc
    exact ⟨_, _, _, _, rfl, hc.1.1.1, hc.1.1.2, hc.1.2, hc.2⟩
  have hR := evX_R hr.rel hr.er hcx
  rw [hf] at hR
  simp only [R] at hR
  obtain ⟨cv, hval, hcaps⟩ := hR
  refine wpIn_rangeFunc fun fn0 _ => ?_
  -- the record is laid
  obtain ⟨l, mark, w1, rec, hent, hlrec, hst, hpe, hpar, has, hbo, htm, hE1, hR1, hd1⟩ : ∃ l mark w1 rec, (Instr.enterLoop fn0 a.tmps ps' asg' body' M.F.round).run M.P w = .ok (l, mark) w1 ∧ w1.heap[l]? = some (.loop rec) ∧ rec.state = .ready ∧ rec.pending = none ∧
      rec.params = ps' ∧ rec.assign = asg' ∧ rec.body = body' ∧ rec.tmps = a.tmps ∧ E g w (g.new (.loop l)) w1 ∧ Rel M.P (g.new (.loop l)) (σ.new (.loop M.nt env ps asg body .ready)) w1 ∧ DefsOk M.wS.heap.size (g.new (.loop l)) w1 (mark ++ a.defers) := by
    have lay : ∀ (w0 : World) (rec : Loop), E g w g w0 → Rel M.P g σ w0 → rec.state = .ready → rec.pending = none → rec.params = ps' → rec.assign = asg' → rec.body = body' → rec.tmps = a.tmps →
        E g w (g.new (.loop w0.heap.size)) (w0.alloc (.loop rec)) ∧ Rel M.P (g.new (.loop w0.heap.size)) (σ.new (.loop M.nt env ps asg body .ready)) (w0.alloc (.loop rec)) := by
      intro w0 rec hE0 hR0 h1 h2 h3 h4 h5 h6
      obtain ⟨hE, hR⟩ := new_block (h := .loop w0.heap.size) (o := .loop M.nt env ps asg body .ready) hR0 (.loop rec) rfl (fun b f n e0 e => by cases e) (fun hE =>
        ⟨w0.heap.size, rec, G.new_same _ _, heap_alloc_new w0 _, by rw [h3]; exact hps, by rw [h4]; exact hca, by rw [h5]; exact hcb, by rw [h6]; exact hr.nt, by
          rw [h6]; exact (hr.er.mono hE0 hr.rel.gw).mono hE hR0.gw, fun _ => h2, h1⟩)
      exact ⟨E.trans hr.rel.gw hE0 hE, hR⟩
    have hround : M.F.round = M.r.map (·.2) := by
      unfold Md.F
      split <;> rename_i h <;> rw [h] <;> rfl
    cases hMr : M.r with
    | none =>
      rw [hround, hMr]
      have hs0 : w.heap.size ≤ (w.alloc (.deferred (some []))).heap.size := by rw [World.size_alloc]; omega
      have hold0 : ∀ b, b < w.heap.size → (w.alloc (.deferred (some []))).heap[b]? = w.heap[b]? := fun b hlt => heap_alloc_old w _ b hlt
      obtain ⟨hE, hR⟩ := lay (w.alloc (.deferred (some []))) { state := .ready, pending := none, fn := fn0, tmps := a.tmps, params := ps', assign := asg', body := body', defers := w.heap.size }
        (E.of_heap hr.rel.gw hs0 hold0) (hr.rel.of_heap hs0 hold0) rfl rfl rfl rfl rfl rfl
      rw [World.size_alloc] at hE hR
      refine ⟨_, _, _, { state := .ready, pending := none, fn := fn0, tmps := a.tmps, params := ps', assign := asg', body := body', defers := w.heap.size }, enterLoop_outer M.P w fn0 a.tmps ps' asg' body', ?_, rfl, rfl, rfl, rfl, rfl, rfl, hE, hR, ?_⟩
      · have := heap_alloc_new (w.alloc (.deferred (some []))) (.loop { state := .ready, pending := none, fn := fn0, tmps := a.tmps, params := ps', assign := asg', body := body', defers := w.heap.size })
        rwa [World.size_alloc] at this
      · obtain ⟨bs, h1, h2, h3⟩ := hr.defs.mono hE
        refine ⟨w.heap.size :: bs, by rw [h1]; rfl, List.nodup_cons.2 ⟨fun hm => ?_, h2⟩, fun b hb => ?_⟩
        · obtain ⟨bs', k1, k2, k3⟩ := hr.defs
          have hbb : bs = bs' := by
            have : bs.map mkDef = bs'.map mkDef := by rw [← h1, ← k1]
            exact mkDef_inj this
          subst hbb
          have := lt_of_heap (k3 _ hm).2.1
          omega
        · rcases List.mem_cons.1 hb with rfl | hb
          · refine ⟨hr.e.size, ?_, fun id h hid hbl => ?_⟩
            · rw [heap_alloc_old _ _ _ (by rw [World.size_alloc]; omega)]
              exact heap_alloc_new w _
            · by_cases e : id = g.next
              · subst e
                rw [G.new_same] at hid
                injection hid with hid
                subst hid
                simp [Gh.block] at hbl
              · rw [G.new_ne g _ e] at hid
                have := hr.rel.gw.bl id h _ hid hbl
                omega
          · exact h3 b hb
    | some p =>
      obtain ⟨id0, l0⟩ := p
      rw [hround, hMr]
      obtain ⟨nt0, e0, p0, a0, b0, st0, hob⟩ := hin id0 l0 hMr
      obtain ⟨l1, r0, hat, hh, _⟩ := hr.rel.obj id0 _ hob
      have := hr.rnd id0 l0 hMr
      rw [this] at hat
      injection hat with hat
      injection hat with hat
      subst hat
      obtain ⟨hE, hR⟩ := lay w { state := .ready, pending := none, fn := fn0, tmps := a.tmps, params := ps', assign := asg', body := body', defers := r0.defers }
        (E.refl g w hr.rel.gw) hr.rel rfl rfl rfl rfl rfl rfl
      exact ⟨_, _, _, { state := .ready, pending := none, fn := fn0, tmps := a.tmps, params := ps', assign := asg', body := body', defers := r0.defers }, enterLoop_inner M.P w fn0 a.tmps ps' asg' body' hh, heap_alloc_new w _, rfl, rfl, rfl, rfl, rfl, rfl, hE, hR, hr.defs.mono hE⟩
  have hyl : R (g.new (.loop l)) w1 (.yld σ.next) (.func (.yield l) #[] #[]) := by
    simp only [R]
    exact ⟨l, by rw [hr.rel.next, G.new_same], rfl⟩
  have hargs : RL (g.new (.loop l)) w1 (.yld σ.next :: caps) (.func (.yield l) #[] #[] :: cv.toList) := by
    simp only [RL]
    exact ⟨_, _, rfl, hyl, RL.mono hE1 hr.rel.gw _ _ hcaps⟩
  have hnext := hcall _ _ _ hR1 hargs
  have hargsA : (Value.func (.yield l) #[] #[] :: cv.toList).toArray = #[Value.func (.yield l) #[] #[]] ++ cv := by
    apply Array.ext'
    simp
  rw [hargsA, callFunc_has hbody] at hnext
  refine ⟨l, mark, w1, { target := .fn (.func fn) cv, args := #[.func (.yield l) #[] #[]] }, w1, fn, #[.func (.yield l) #[] #[]] ++ cv, w1, hent, ?_, fun f _ => M.F_fn f, ?_, (fun h => by rw [M.F_depth] at h; cases h), ?_⟩
  · simp only [resolve, rangeCall, hval, Deferred.ofValue]
    simp [Act.eval]
  · simp [invoke, callFunc_has hbody]
  · have hr1 : Rl M (g.new (.loop l)) w1 (σ.new (.loop M.nt env ps asg body .ready)) env { a with defers := mark ++ a.defers } :=
      ⟨hr.gs, E.trans hr.gs hr.e hE1, hR1, hr.er.mono hE1 hr.rel.gw, hr.nt, hd1, fun id l' h => hE1.keep id _ (hr.rnd id l' h) rfl⟩
    refine (callsIn_F M hnext).mono ?_
    intro e w3 he
    cases e with
    | panicked ch => exact he.elim
    | outgrown => exact he.elim
    | returned v =>
      obtain ⟨d, g3, σ3, hE3, hR3, _, st, hob, hgo⟩ := he
      have hr3 := hr1.goes hE3 hR3
      obtain ⟨l3, r3, hat, hh, h1, h2, h3, h4, h5, h6, h7⟩ := hR3.obj _ _ hob
      have hl3 : l3 = l := by
        have := hE3.keep g.next (.loop l) (G.new_same _ _) rfl
        rw [hr.rel.next, this] at hat
        injection hat with hat
        injection hat with hat
        exact hat.symm
      subst hl3
      have hnc : ∀ c e z, (Obj.loop r3) ≠ .cells c e z := fun _ _ _ h => by cases h
      have hend : r3.state ≠ .busy → (Instr.endLoop l3).run M.P w3 = .ok r3.pending { w3 with heap := w3.heap.setIfInBounds l3 (.loop { r3 with state := .exhausted }) } := fun hnb => by
        simp [Instr.endLoop, Instr.getLoop, getObj, setObj, Sem.run, hh, hnb]
      have hr4 : Rl M g3 { w3 with heap := w3.heap.setIfInBounds l3 (.loop { r3 with state := .exhausted }) } (σ3.del σ.next) env { a with defers := mark ++ a.defers } :=
        hr3.goes (obj_E hR3.gw hat hh hnc) (obj_rel hR3 hat hh hnc rfl rfl (fun j ob hj hob => by simpa [St.del, hj] using hob) (fun ob hob _ => by simp [St.del] at hob))
      cases st with
      | busy => exact hgo.elim
      | ready =>
        simp only [RSt] at h7
        refine ⟨_, _, hend (by rw [h7]; simp), ?_⟩
        have hp0 : r3.pending = none := h6 rfl
        split
        · exact ⟨g3, env, _, hr4, hgo⟩
        · rename_i c hc; rw [hp0] at hc; cases hc
      | done j =>
        simp only [RSt] at h7
        obtain ⟨h7, c, hpc, hcc⟩ := h7
        refine ⟨_, _, hend (by rw [h7]; simp), ?_⟩
        split
        · rename_i hc; rw [hpc] at hc; cases hc
        · rename_i c' hc
          rw [hpc] at hc
          injection hc with hc
          subst hc
          exact hgo _ hcc g3 _ _ hr4

def RPost (n0 nt : Nat) (id : Nat) (env0 : Env) (ps : List Nat) (asg body : HC) (K : D → St → Prop) : HPost := fun e env σ =>
  σ.obj id = some (.loop nt env0 ps asg body .busy) ∧
  match e with
  | .normal => (σ.put id (.loop nt env0 ps asg body .ready)).wf → n0 ≤ σ.next → ∃ σ', Drop n0 [] σ' env (σ.put id (.loop nt env0 ps asg body .ready)) ∧ K (.bool true) σ'
  | .ret => (σ.put id (.loop nt env0 ps asg body (.done .ret))).wf → n0 ≤ σ.next → ∃ σ', Drop n0 [] σ' env (σ.put id (.loop nt env0 ps asg body (.done .ret))) ∧ K (.bool false) σ'
  | .exit j => (σ.put id (.loop nt env0 ps asg body (.done (.exit j)))).wf → n0 ≤ σ.next → ∃ σ', Drop n0 [] σ' env (σ.put id (.loop nt env0 ps asg body (.done (.exit j)))) ∧ K (.bool false) σ'
  | _ => False

def putsE (env : Env) : List Nat → List D → Env
  | p :: ps, d :: ds => putsE (putE env p d) ps ds
  | _, _ => env

theorem ER.putE {g : G} {w : World} {env : Env} {tmps : Array Value} {t : Nat} {d : D} {v : Value} (h : ER g w env tmps) (ht : t < tmps.size) (hd : R g w d v) : ER g w (putE env t d) (tmps.setIfInBounds t v) := fun s => by
  rw [look_putE]
  split
  · rename_i e
    subst e
    rw [Array.getD_eq_getD_getElem?, Array.getElem?_setIfInBounds_self_of_lt ht]
    exact hd
  · rename_i e
    rw [Array.getD_eq_getD_getElem?, Array.getElem?_setIfInBounds_ne (fun h => e h.symm), ← Array.getD_eq_getD_getElem?]
    exact h s

theorem ER.puts {g : G} {w : World} : ∀ {ps : List Nat} {ds : List D} {vs : List Value} {env : Env} {tmps : Array Value}, ER g w env tmps → (∀ p ∈ ps, p < tmps.size) → RL g w ds vs →
    ER g w (putsE env ps ds) ((ps.zip vs).foldl (fun t (p : Nat × Value) => t.setIfInBounds p.1 p.2) tmps) ∧ ((ps.zip vs).foldl (fun t (p : Nat × Value) => t.setIfInBounds p.1 p.2) tmps).size = tmps.size
  | [], ds, vs, env, tmps, h, _, _ => ⟨by cases ds <;> simpa [putsE] using h, rfl⟩
  | p :: ps, [], vs, env, tmps, h, _, hr => by
    simp only [RL] at hr
    subst hr
    exact ⟨by simpa [putsE] using h, rfl⟩
  | p :: ps, d :: ds, vs, env, tmps, h, hp, hr => by
    simp only [RL] at hr
    obtain ⟨u, us, rfl, hu, hl⟩ := hr
    simp only [putsE, List.zip_cons_cons, List.foldl_cons]
    have := ER.puts (ps := ps) (h.putE (hp p (by simp)) hu) (fun q hq => by rw [Array.size_setIfInBounds]; exact hp q (by simp [hq])) hl
    exact ⟨this.1, by rw [this.2, Array.size_setIfInBounds]⟩

theorem hcallD_yield {P : Program} {nt id : Nat} {env0 : Env} {ps : List Nat} {asg body : HC} {args : List D} {σ : St} {K : D → St → Prop} (hob : σ.obj id = some (.loop nt env0 ps asg body .ready)) (hl : args.length = ps.length)
    (hps : ∀ p ∈ ps, p < nt)
    (hround : ∀ M : Md, M.P = P → M.nt = nt → (∃ l, M.r = some (id, l)) → M.gS.next = σ.next → σ.wf → ltL σ.next args →
      HX M (fun _ _ _ => False) [.code asg, .stop fun env1 σ1 => σ1.obj id = some (.loop nt env0 ps asg body .ready) ∧ HX M (RPost σ.next nt id env0 ps asg body K) [.code body] env1 (σ1.put id (.loop nt env0 ps asg body .busy))] (putsE env0 ps args) σ) :
    HCallD P (.yld id) args σ K := by
  intro g w v vs hrel hd hargs
  simp only [R] at hd
  obtain ⟨l, hat, rfl⟩ := hd
  refine ⟨.yield l, #[], rfl, ?_⟩
  obtain ⟨l', r, hat', hh, h1, h2, h3, h4, h5, h6, h7⟩ := hrel.obj id _ hob
  rw [hat] at hat'
  injection hat' with hat'
  injection hat' with hat'
  subst hat'
  have hvl := hargs.length
  have hsz : vs.toArray.size = r.params.size := by
    have : r.params.toList.length = ps.length := by rw [h1]
    simp at this ⊢
    omega
  have hinv : (invoke (.fn (.yield l) #[]) vs.toArray).run P w = .ok (.round l r.fn ((r.params.zip vs.toArray).foldl (fun tmps (t, a) => tmps.setIfInBounds t a) r.tmps) r.assign r.body) w := by
    have hne : ¬ (vs.toArray.size ≠ r.params.size) := fun h => h hsz
    simp only [invoke, Instr.yield, Instr.getLoop, getObj, Sem.run_bind, Sem.run, hh, Result.andThen_ok, if_neg hne, Sem.run_pure]
  rw [hinv]
  show RoundIn Fence.wide 0 P l r.fn _ r.assign r.body w _
  have hfold : (r.params.zip vs.toArray).foldl (fun tmps (t, a) => tmps.setIfInBounds t a) r.tmps = (ps.zip vs).foldl (fun t (p : Nat × Value) => t.setIfInBounds p.1 p.2) r.tmps := by
    rw [← Array.foldl_toList, Array.toList_zip, h1]
  rw [hfold]
  obtain ⟨he, hts⟩ := ER.puts (ps := ps) (ds := args) (vs := vs) h5 (fun p hp => by rw [h4]; exact hps p hp) hargs
  let M : Md := { P := P, nt := nt, r := some (id, l), gS := g, wS := w }
  have hMF : M.F = Fence.wide.inRound l := rfl
  have hx := hround M rfl rfl ⟨l, rfl⟩ hrel.next.symm hrel.wf (by rw [hrel.next]; exact RL_lt hrel.gw _ _ hargs)
  have hr0 : Rl M g w σ (putsE env0 ps args) { tmps := (ps.zip vs).foldl (fun t (p : Nat × Value) => t.setIfInBounds p.1 p.2) r.tmps, defers := [] } :=
    { gs := hrel.gw
      e := E.refl g w hrel.gw
      rel := hrel
      er := he
      nt := by show _ = nt; rw [hts, h4]
      defs := DefsOk.nil _ _ _
      rnd := fun id' l' h => by injection h with h; injection h with e1 e2; subst e1 e2; exact hat }
  refine roundIn_of_wpIn trivial ?_
  have hasg := hx r.assign h2 g w _ hr0
  rw [hMF] at hasg
  refine wpIn_mono hasg ?_
  rintro e a1 w1 ⟨g1, env1, σ1, hr1, hq⟩
  cases e with
  | normal =>
    obtain ⟨hob1, hbody⟩ := hq
    obtain ⟨l1, r1, hat1, hh1, k1, k2, k3, k4, k5, k6, k7⟩ := hr1.rel.obj id _ hob1
    have hl1 : l1 = l := by
      have := hr1.rnd id l rfl
      have h2 : g1.at_ id = some (.loop l) := this
      rw [h2] at hat1
      injection hat1 with hat1
      injection hat1 with hat1
      exact hat1.symm
    subst hl1
    have hnc : ∀ c e z, (Obj.loop r1) ≠ .cells c e z := fun _ _ _ h => by cases h
    simp only [RSt] at k7
    refine ⟨{ w1 with heap := w1.heap.setIfInBounds l1 (.loop { r1 with state := .busy }) }, ?_, ?_⟩
    · simp [Instr.beginRound, Instr.getLoop, getObj, setObj, Sem.run, hh1, k7]
    · have hr2 : Rl M g1 { w1 with heap := w1.heap.setIfInBounds l1 (.loop { r1 with state := .busy }) } (σ1.put id (.loop nt env0 ps asg body .busy)) env1 a1 :=
        hr1.goes (obj_E hr1.rel.gw hat1 hh1 hnc) (obj_rel hr1.rel hat1 hh1 hnc rfl rfl (fun j ob hj hob => by rwa [St.put_ne σ1 _ hj] at hob) (fun ob hob hev => by
          rw [St.put_same] at hob
          injection hob with hob
          subst hob
          exact ⟨l1, { r1 with state := .busy }, hat1, by simp [lt_of_heap hh1], k1, k2, k3, k4, fun t => R.ev hev _ _ (k5 t), (fun h => by cases h), rfl⟩))
      have hb := hbody r.body h3 g1 _ a1 hr2
      rw [hMF] at hb
      refine wpIn_mono hb ?_
      rintro e a2 w2 ⟨g2, env2, σ2, hr3, hob2, hq2⟩
      obtain ⟨l2, r2, hat2, hh2, j1, j2, j3, j4, j5, j6, j7⟩ := hr3.rel.obj id _ hob2
      have hl2 : l2 = l1 := by
        have h2 : g2.at_ id = some (.loop l1) := hr3.rnd id l1 rfl
        rw [h2] at hat2
        injection hat2 with hat2
        injection hat2 with hat2
        exact hat2.symm
      subst hl2
      have hnc2 : ∀ c e z, (Obj.loop r2) ≠ .cells c e z := fun _ _ _ h => by cases h
      have fin : ∀ (jump : Option Code) (st : LSt) (b : Bool), b = jump.isNone → (st matches .ready → jump = none) → RSt P nt st { r2 with state := if jump.isNone then .ready else .done, pending := jump } →
          ((σ2.put id (.loop nt env0 ps asg body st)).wf → σ.next ≤ σ2.next → ∃ σ', Drop σ.next [] σ' env2 (σ2.put id (.loop nt env0 ps asg body st)) ∧ K (.bool b) σ') → ∃ v w', (Instr.endRound l2 jump).run P w2 = .ok v w' ∧ HRet P g w K (.returned v) w' := by
        intro jump st b hb hstj hst hk
        refine ⟨.bool jump.isNone, { w2 with heap := w2.heap.setIfInBounds l2 (.loop { r2 with state := if jump.isNone then .ready else .done, pending := jump }) }, ?_, ?_⟩
        · simp [Instr.endRound, Instr.getLoop, getObj, setObj, Sem.run, hh2]
        · have hr4 : Rl M g2 { w2 with heap := w2.heap.setIfInBounds l2 (.loop { r2 with state := if jump.isNone then .ready else .done, pending := jump }) } (σ2.put id (.loop nt env0 ps asg body st)) env2 a2 :=
            hr3.goes (obj_E hr3.rel.gw hat2 hh2 hnc2) (obj_rel hr3.rel hat2 hh2 hnc2 rfl rfl (fun j ob hj hob => by rwa [St.put_ne σ2 _ hj] at hob) (fun ob hob hev => by
              rw [St.put_same] at hob
              injection hob with hob
              subst hob
              exact ⟨l2, { r2 with state := if jump.isNone then .ready else .done, pending := jump }, hat2, by simp [lt_of_heap hh2], j1, j2, j3, j4, fun t => R.ev hev _ _ (j5 t), hstj, hst⟩))
          obtain ⟨σ', hdrop, hk'⟩ := hk hr4.rel.wf (by
            have h1 := hr3.e.next
            have h2 := hr3.rel.next
            have h3 := hrel.next
            have h4 : M.gS.next = g.next := rfl
            omega)
          exact ⟨.bool b, g2.cut σ'.next, σ', hr4.e.cut hr4.gs (by rw [← hrel.next]; exact hdrop.n0), hr4.rel.cut hdrop.wf hdrop.same hdrop.glob, by simp only [R]; rw [hb], hk'⟩
      cases e with
      | normal => exact fin none .ready true rfl (fun _ => rfl) rfl hq2
      | ret => exact fin (some .ret) (.done .ret) false rfl (fun h => by cases h) ⟨rfl, .ret, rfl, rfl⟩ hq2
      | exit j => exact fin (some (.exit j)) (.done (.exit j)) false rfl (fun h => by cases h) ⟨rfl, .exit j, rfl, by simp [cmpC]⟩ hq2
      | goto t => exact hq2.elim
      | panic ch => exact hq2.elim
      | outgrown => exact hq2.elim
  | exit j => exact hq.elim
  | goto t => exact hq.elim
  | ret => exact hq.elim
  | panic ch => exact hq.elim
  | outgrown => exact hq.elim

end
end Go.Hl
