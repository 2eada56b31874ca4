/-
  Code over data: contracts, the rules of a walk.
-/
import Derived.Test.YtijcddlahidhhaaDoorHlF
set_option linter.unusedSectionVars false
set_option linter.unusedVariables false
namespace Go.Hl
open Go

def HRet (P : Program) (g : G) (w : World) (Q : D → St → Prop) : Ending → World → Prop
  | .returned v, w' => ∃ d g' σ', E g w g' w' ∧ Rel P g' σ' w' ∧ R g' w' d v ∧ Q d σ'
  | _, _ => False

def NextOk (P : Program) (R : Ending → World → Prop) : Result Next → Prop
  | .ok (.value v) w' => R (.returned v) w'
  | .ok (.enter f args) w' => CallsIn Fence.wide 0 P f args w' R
  | .ok (.row row args) w' => RowsIn Fence.wide 0 P row args w' fun v w'' => R (.returned v) w''
  | .ok (.round l f tmps assign body) w' => RoundIn Fence.wide 0 P l f tmps assign body w' R
  | _ => False

def HCalls (P : Program) (f : Nat) (args : List D) (σ : St) (Q : D → St → Prop) : Prop :=
  ∀ g w vs, Rel P g σ w → RL g w args vs → NextOk P (HRet P g w Q) ((callFunc f vs.toArray).run P w)

def HCallD (P : Program) (d : D) (args : List D) (σ : St) (Q : D → St → Prop) : Prop :=
  ∀ g w v vs, Rel P g σ w → R g w d v → RL g w args vs → ∃ fn cap, v = .func fn #[] cap ∧ NextOk P (HRet P g w Q) ((invoke (.fn fn cap) vs.toArray).run P w)

def Wk (d d' : D) : Prop := ∀ g w v, R g w d v → R g w d' v
def WkL (ds ds' : List D) : Prop := ∀ g w vs, RL g w ds vs → RL g w ds' vs
def WkC (ds ds' : List D) : Prop := ∀ g w vs, RC g w ds vs → RC g w ds' vs

theorem Wk.refl (d : D) : Wk d d := fun _ _ _ h => h
theorem Wk.trans {a b c : D} (h : Wk a b) (k : Wk b c) : Wk a c := fun g w v hv => k g w v (h g w v hv)
theorem Wk.nil {sz sz' : Nat} : Wk (.slice .nil sz []) (.slice .no sz' []) := fun g w v h => by
  simp only [R] at h ⊢
  obtain ⟨A, cap, h1, h2, h3, h4, h5⟩ := h
  exact ⟨A, cap, h1, h2, h3, trivial, fun _ _ _ => by simp only [RX]⟩
theorem Wk.no {o : Own} {sz : Nat} {xs : List (List D)} : Wk (.slice o sz xs) (.slice .no sz xs) := fun g w v h => R_no h
theorem Wk.undef (d : D) : Wk d .undef := fun _ _ _ _ => by simp only [R]
theorem Wk.agg {cs cs' : List D} (h : WkC cs cs') : Wk (.agg cs) (.agg cs') := fun g w v hv => by
  simp only [R] at hv ⊢
  obtain ⟨vs, rfl, hl⟩ := hv
  exact ⟨vs, rfl, h g w _ hl⟩
theorem Wk.tuple {cs cs' : List D} (h : WkL cs cs') : Wk (.tuple cs) (.tuple cs') := fun g w v hv => by
  simp only [R] at hv ⊢
  obtain ⟨vs, rfl, hl⟩ := hv
  exact ⟨vs, rfl, h g w _ hl⟩
theorem WkC.nil : WkC [] [] := fun _ _ _ h => h
theorem WkL.nil : WkL [] [] := fun _ _ _ h => h
theorem WkL.refl (ds : List D) : WkL ds ds := fun _ _ _ h => h
theorem WkC.cons {d d' : D} {ds ds' : List D} (h : Wk d d') (k : WkC ds ds') : WkC (d :: ds) (d' :: ds') := fun g w vs hv => by
  simp only [RC] at hv ⊢
  obtain ⟨u, us, rfl, ⟨ho, hu⟩, hl⟩ := hv
  exact ⟨u, us, rfl, ⟨ho, h g w u hu⟩, k g w us hl⟩
theorem WkL.cons {d d' : D} {ds ds' : List D} (h : Wk d d') (k : WkL ds ds') : WkL (d :: ds) (d' :: ds') := fun g w vs hv => by
  simp only [RL] at hv ⊢
  obtain ⟨u, us, rfl, hu, hl⟩ := hv
  exact ⟨u, us, rfl, h g w u hu, k g w us hl⟩

theorem NextOk.mono {P : Program} {R R' : Ending → World → Prop} {r : Result Next} (h : NextOk P R r) (hr : ∀ e w, R e w → R' e w) : NextOk P R' r := by
  cases r with
  | halt h' w => exact h
  | ok n w =>
    cases n <;> simp only [NextOk] at h ⊢
    case value v => exact hr _ _ h
    case enter f args => exact CallsIn.mono h hr
    case row row args => exact RowsIn.mono h fun v w' => hr _ _
    case round l f t a b => exact RoundIn.mono h hr

theorem HRet.mono {P : Program} {g : G} {w : World} {Q Q' : D → St → Prop} (h : ∀ d σ, Q d σ → Q' d σ) (e : Ending) (w' : World) (hr : HRet P g w Q e w') : HRet P g w Q' e w' := by
  cases e <;> simp only [HRet] at hr ⊢
  obtain ⟨d, g', σ', h1, h2, h3, h4⟩ := hr
  exact ⟨d, g', σ', h1, h2, h3, h _ _ h4⟩

theorem HCalls.mono {P : Program} {f : Nat} {args : List D} {σ : St} {Q Q' : D → St → Prop} (h : HCalls P f args σ Q) (hq : ∀ d σ, Q d σ → Q' d σ) : HCalls P f args σ Q' :=
  fun g w vs hr hl => (h g w vs hr hl).mono (HRet.mono hq)

theorem HCallD.mono {P : Program} {f : D} {args : List D} {σ : St} {Q Q' : D → St → Prop} (h : HCallD P f args σ Q) (hq : ∀ d σ, Q d σ → Q' d σ) : HCallD P f args σ Q' :=
  fun g w v vs hr hd hl => let ⟨fn, cap, h1, h2⟩ := h g w v vs hr hd hl; ⟨fn, cap, h1, h2.mono (HRet.mono hq)⟩

theorem RL.append {g : G} {w : World} : ∀ {ds es : List D} {vs us : List Value}, RL g w ds vs → RL g w es us → RL g w (ds ++ es) (vs ++ us)
  | [], es, vs, us, h, h' => by simp only [RL] at h; subst h; exact h'
  | d :: ds, es, vs, us, h, h' => by
    simp only [RL] at h
    obtain ⟨u, r, rfl, hu, hl⟩ := h
    simp only [List.cons_append, RL]
    exact ⟨u, r ++ us, rfl, hu, RL.append hl h'⟩

theorem hcallD_func {P : Program} {f : Nat} {caps args : List D} {σ : St} {Q : D → St → Prop} (h : HCalls P f (args ++ caps) σ Q) : HCallD P (.func f caps) args σ Q := by
  intro g w v vs hr hd hl
  simp only [R] at hd
  obtain ⟨cv, rfl, hc⟩ := hd
  refine ⟨.func f, cv, rfl, ?_⟩
  have := h g w (vs ++ cv.toList) hr (RL.append hl hc)
  have e : (vs ++ cv.toList).toArray = vs.toArray ++ cv := by simp
  rw [e] at this
  exact this

structure Md where
  P : Program
  nt : Nat
  r : Option (Nat × Nat)
  gS : G
  wS : World

def Md.F (M : Md) : Fence := match M.r with
  | none => Fence.wide
  | some (_, l) => Fence.wide.inRound l

theorem Md.F_fn (M : Md) (f : FuncId) : M.F.fn f := by
  unfold Md.F
  split <;> exact trivial
theorem Md.F_depth (M : Md) : M.F.depth = none := by
  unfold Md.F
  split <;> rfl

theorem callsIn_F (M : Md) {n : Nat} {f : FuncId} {args : Array Value} {w : World} {R : Ending → World → Prop} (h : CallsIn Fence.wide 0 M.P f args w R) : CallsIn M.F n M.P f args w R := by
  unfold Md.F
  split
  · exact ⟨trivial, fun cs _ => h.2 cs (room_wide _)⟩
  · exact ⟨trivial, fun cs _ => h.2 cs (room_wide _)⟩
theorem rowsIn_F (M : Md) {n : Nat} {row : String} {args : Array Value} {w : World} {R : Value → World → Prop} (h : RowsIn Fence.wide 0 M.P row args w R) : RowsIn M.F n M.P row args w R := by
  unfold Md.F
  split
  · exact fun c cs _ => h c cs (room_wide _)
  · exact fun c cs _ => h c cs (room_wide _)
theorem roundIn_F (M : Md) {n l : Nat} {f : FuncId} {tmps : Array Value} {as body : Code} {w : World} {R : Ending → World → Prop} (h : RoundIn Fence.wide 0 M.P l f tmps as body w R) : RoundIn M.F n M.P l f tmps as body w R := by
  unfold Md.F
  split
  · exact ⟨trivial, fun c cs _ => h.2 c cs (room_wide _)⟩
  · exact ⟨trivial, fun c cs _ => h.2 c cs (room_wide _)⟩

def mkDef (b : Nat) : Deferred := { target := .collected b, args := #[] }

def DefsOk (n0 : Nat) (g : G) (w : World) (ds : List Deferred) : Prop :=
  ∃ bs : List Nat, ds = bs.map mkDef ∧ bs.Nodup ∧ ∀ b ∈ bs, n0 ≤ b ∧ w.heap[b]? = some (.deferred (some [])) ∧ ∀ id h, g.at_ id = some h → h.block ≠ some b

theorem DefsOk.nil (n0 : Nat) (g : G) (w : World) : DefsOk n0 g w [] := ⟨[], rfl, List.nodup_nil, fun _ h => by cases h⟩

theorem untracked_mono {g g' : G} {w w' : World} (h : E g w g' w') {b : Nat} (hb : b < w.heap.size) (hu : ∀ id k, g.at_ id = some k → k.block ≠ some b) : ∀ id k, g'.at_ id = some k → k.block ≠ some b := by
  intro id k hk hbl
  by_cases hlt : id < g.next
  · obtain ⟨k0, hk0, m⟩ := h.old id k hlt hk
    exact hu id k0 hk0 (m.block hbl hb)
  · have := h.new id k (by omega) hk b hbl
    omega

theorem DefsOk.mono {n0 : Nat} {g g' : G} {w w' : World} {ds : List Deferred} (h : E g w g' w') (hd : DefsOk n0 g w ds) : DefsOk n0 g' w' ds := by
  obtain ⟨bs, h1, h2, h3⟩ := hd
  refine ⟨bs, h1, h2, fun b hb => ?_⟩
  obtain ⟨k1, k2, k3⟩ := h3 b hb
  have hlt := lt_of_heap k2
  exact ⟨k1, by rw [h.still b hlt k3, k2], untracked_mono h hlt k3⟩

structure Rl (M : Md) (g : G) (w : World) (σ : St) (env : Env) (a : Act) : Prop where
  gs : GW M.gS M.wS
  e : E M.gS M.wS g w
  rel : Rel M.P g σ w
  er : ER g w env a.tmps
  nt : a.tmps.size = M.nt
  defs : DefsOk M.wS.heap.size g w a.defers
  rnd : ∀ id l, M.r = some (id, l) → g.at_ id = some (.loop l)

abbrev HPost := Exit → Env → St → Prop

def Out (M : Md) (Q : HPost) (e : Exit) (a : Act) (w : World) : Prop := ∃ g env σ, Rl M g w σ env a ∧ Q e env σ

def HW (M : Md) (hc : HC) (Q : HPost) (env : Env) (σ : St) : Prop :=
  ∀ c, cmpC M.P M.nt c hc = true → ∀ g w a, Rl M g w σ env a → c.wpIn M.F 0 M.P (Out M Q) a w

def HOs (M : Md) (hs : List HI) (Q : HPost) (env : Env) (σ : St) : Prop :=
  ∀ ops i, cmpOps M.P M.nt ops (ops.toList.drop i) hs = true → ∀ g w a, Rl M g w σ env a → wpOpsIn M.F 0 M.P ops (Out M Q) (List.range' i (ops.size - i)) a w

inductive It where
  | code (c : HC)
  | inBlock (id : Nat)
  | ops (l : List HI)
  | stop (I : Env → St → Prop)

def KP (M : Md) (base : HPost) : List It → HPost
  | [], e, env, σ => base e env σ
  | .code c :: k, .normal, env, σ => HW M c (KP M base k) env σ
  | .ops l :: k, .normal, env, σ => HOs M l (KP M base k) env σ
  | .stop I :: k, .normal, env, σ => I env σ
  | .inBlock id :: k, .normal, env, σ => KP M base k .normal env σ
  | .inBlock id :: k, .exit j, env, σ => if j = id then KP M base k .normal env σ else KP M base k (.exit j) env σ
  | _ :: k, e, env, σ => KP M base k e env σ

def HX (M : Md) (base : HPost) (k : List It) (env : Env) (σ : St) : Prop := KP M base k .normal env σ

section
variable {M : Md} {base : HPost} {k : List It} {env : Env} {σ : St}

theorem KP_ret (M : Md) (base : HPost) (env : Env) (σ : St) : ∀ k, KP M base k .ret env σ = base .ret env σ
  | [] => rfl
  | .code _ :: k => KP_ret M base env σ k
  | .ops _ :: k => KP_ret M base env σ k
  | .stop _ :: k => KP_ret M base env σ k
  | .inBlock _ :: k => KP_ret M base env σ k

theorem hx_stop {I : Env → St → Prop} (h : I env σ) : HX M base (.stop I :: k) env σ := h
theorem hx_inBlock {id : Nat} (h : HX M base k env σ) : HX M base (.inBlock id :: k) env σ := h

theorem hx_skip (h : HX M base k env σ) : HX M base (.code .skip :: k) env σ := by
  intro c hc g w a hr
  cases c <;> simp [cmpC] at hc
  exact wpIn_skip ⟨g, env, σ, hr, h⟩

theorem hx_seq {x y : HC} (h : HX M base (.code x :: .code y :: k) env σ) : HX M base (.code (.seq x y) :: k) env σ := by
  intro c hc g w a hr
  cases c <;> simp only [cmpC, Bool.false_eq_true, Bool.and_eq_true] at hc
  refine wpIn_seq (wpIn_mono (h _ hc.1 g w a hr) ?_)
  rintro e a' w' ⟨g', env', σ', hr', hq⟩
  cases e with
  | normal => exact hq _ hc.2 g' w' a' hr'
  | _ => exact ⟨g', env', σ', hr', hq⟩

theorem hx_block {id : Nat} {x : HC} (h : HX M base (.code x :: .inBlock id :: k) env σ) : HX M base (.code (.block id x) :: k) env σ := by
  intro c hc g w a hr
  cases c <;> simp only [cmpC, Bool.false_eq_true, Bool.and_eq_true, beq_iff_eq] at hc
  obtain ⟨rfl, hc⟩ := hc
  refine wpIn_block (wpIn_mono (h _ hc g w a hr) ?_)
  rintro e a' w' ⟨g', env', σ', hr', hq⟩
  cases e with
  | exit j =>
    simp only [KP] at hq
    simp only [Exit.inBlock]
    split
    · rename_i e; rw [if_pos e] at hq; exact ⟨g', env', σ', hr', hq⟩
    · rename_i e; rw [if_neg e] at hq; exact ⟨g', env', σ', hr', hq⟩
  | _ => exact ⟨g', env', σ', hr', hq⟩

theorem hx_cond {x : X} {t : Bool} {p q : HC} (hx : evX σ env x = .bool t) (h : HX M base (.code (if t then p else q) :: k) env σ) : HX M base (.code (.cond x p q) :: k) env σ := by
  intro c hc g w a hr
  cases c <;> simp only [cmpC, Bool.false_eq_true, Bool.and_eq_true] at hc
  have hR := evX_R hr.rel hr.er hc.1.1
  rw [hx] at hR
  simp only [R] at hR
  refine wpIn_cond hR ?_
  cases t
  · exact h _ hc.2 g w a hr
  · exact h _ hc.1.2 g w a hr

theorem hx_exit {id : Nat} (h : KP M base k (.exit id) env σ) : HX M base (.code (.exit id) :: k) env σ := by
  intro c hc g w a hr
  cases c <;> simp only [cmpC, Bool.false_eq_true, beq_iff_eq] at hc
  subst hc
  exact wpIn_exit ⟨g, env, σ, hr, h⟩

theorem hx_ret (h : base .ret env σ) : HX M base (.code .ret :: k) env σ := by
  intro c hc g w a hr
  cases c <;> simp only [cmpC, Bool.false_eq_true] at hc
  exact wpIn_ret ⟨g, env, σ, hr, by rw [KP_ret]; exact h⟩

theorem hx_ops {l : List HI} (h : HX M base (.ops l :: k) env σ) : HX M base (.code (.ops l) :: k) env σ := by
  intro c hc g w a hr
  obtain ⟨id, ops, rfl, hc⟩ : ∃ id ops, c = .region id ops false ∧ cmpOps M.P M.nt ops ops.toList l = true := by
    cases c <;> first
      | (simp [cmpC] at hc; done)
      | skip
    rename_i id ops dr
    cases dr
    · exact ⟨id, ops, rfl, hc⟩
    · cases hc
  refine wpIn_region ?_
  have := h ops 0 (by rw [List.drop_zero]; exact hc) g w a hr
  rw [List.range_eq_range']
  exact this

theorem hx_ops_nil (h : HX M base k env σ) : HX M base (.ops [] :: k) env σ := by
  intro ops i hc g w a hr
  have : ops.size - i = 0 := by
    cases hd : ops.toList.drop i with
    | nil =>
      have := congrArg List.length hd
      simpa using this
    | cons o os => rw [hd] at hc; simp [cmpOps] at hc
  rw [this]
  exact ⟨g, env, σ, hr, h⟩

theorem Rl.withEnv {g : G} {w : World} {env' : Env} {a : Act} (hr : Rl M g w σ env a) (he : ER g w env' a.tmps) : Rl M g w σ env' a :=
  ⟨hr.gs, hr.e, hr.rel, he, hr.nt, hr.defs, hr.rnd⟩

theorem hx_kill {d : Option Nat} {gd : Option (Nat × Bool)} {ts : List Nat} {l : List HI} (h : HX M base (.ops l :: k) (killsE env ts) σ) : HX M base (.ops (⟨d, gd, .kill ts⟩ :: l) :: k) env σ := by
  intro ops i hc g w a hr
  have hc' : cmpOps M.P M.nt ops (ops.toList.drop i) l = true := by
    cases hd : ops.toList.drop i <;> rw [hd] at hc <;> simp [cmpOps, isKill] at hc <;> exact hc.2
  exact h ops i hc' g w a (hr.withEnv hr.er.kills)

def putO (env : Env) (dst : Option Nat) (d : D) : Env := match dst with
  | some t => putE env t d
  | none => env

theorem Rl.put {g g' : G} {w w' : World} {σ' : St} {a : Act} {dst : Option Nat} {d : D} {v : Value} (hr : Rl M g w σ env a) (hE : E g w g' w') (hR : Rel M.P g' σ' w') (hd : R g' w' d v)
    (hdst : (match dst with | some t => decide (t < M.nt) | none => true) = true) : Rl M g' w' σ' (putO env dst d) (a.put dst v) := by
  have he := E.trans hr.gs hr.e hE
  have hrnd : ∀ id l, M.r = some (id, l) → g'.at_ id = some (.loop l) := fun id l h => hE.keep id _ (hr.rnd id l h) rfl
  cases dst with
  | none => exact ⟨hr.gs, he, hR, hr.er.mono hE hr.rel.gw, hr.nt, hr.defs.mono hE, hrnd⟩
  | some t =>
    simp only [decide_eq_true_eq] at hdst
    refine ⟨hr.gs, he, hR, fun s => ?_, by simp [Act.put, hr.nt], hr.defs.mono hE, hrnd⟩
    simp only [putO, Act.put]
    rw [look_putE]
    split
    · rename_i e
      subst e
      rw [Array.getD_eq_getD_getElem?, Array.getElem?_setIfInBounds_self_of_lt (by rw [hr.nt]; exact hdst)]
      exact hd
    · rename_i e
      rw [Array.getD_eq_getD_getElem?, Array.getElem?_setIfInBounds_ne (fun h => e h.symm), ← Array.getD_eq_getD_getElem?]
      exact R.mono hE hr.rel.gw _ _ (hr.er s)

theorem range'_step {i n : Nat} (h : i < n) : List.range' i (n - i) = i :: List.range' (i + 1) (n - (i + 1)) := by
  obtain ⟨m, hm⟩ : ∃ m, n - i = m + 1 := ⟨n - i - 1, by omega⟩
  rw [hm, List.range'_succ]
  congr 2
  omega

theorem cmpOps_cons {P : Program} {nt : Nat} {ops : Array Oper} {i : Nat} {h : HI} {hs : List HI} (hk : isKill h.op = false) (hc : cmpOps P nt ops (ops.toList.drop i) (h :: hs) = true) :
    ∃ o, i < ops.size ∧ ops[i]? = some o ∧ cmpOp P nt ops o h = true ∧ cmpOps P nt ops (ops.toList.drop (i + 1)) hs = true := by
  have hlt : i < ops.size := by
    rcases Nat.lt_or_ge i ops.size with h' | h'
    · exact h'
    · rw [List.drop_eq_nil_of_le (by simpa using h')] at hc
      simp [cmpOps, hk] at hc
  rw [List.drop_eq_getElem_cons (by simpa using hlt)] at hc
  simp only [cmpOps, hk, Bool.false_eq_true, if_false, Bool.and_eq_true] at hc
  exact ⟨ops[i], hlt, Array.getElem?_eq_getElem hlt, by simpa using hc.1, hc.2⟩

def guardB (env : Env) : Option (Nat × Bool) → Option Bool
  | none => some true
  | some (t, b) => match look env t with
    | .bool x => some (x == b)
    | .dead => some false
    | _ => none

theorem wanted_of {g : G} {w : World} {a : Act} {ops : Array Oper} {o : Oper} {h : HI} {b : Bool} (he : ER g w env a.tmps) (hc : cmpGuard ops o h = true) (hg : guardB env h.guard = some b) : Region.wanted o (yielded ops a.tmps) = b := by
  unfold cmpGuard at hc
  unfold Region.wanted
  split at hc
  · rename_i h1 h2
    rw [h2] at hg
    simp only [guardB, Option.some.injEq] at hg
    rw [h1]
    exact hg
  · rename_i j want t b' h1 h2
    simp only [Bool.and_eq_true, beq_iff_eq] at hc
    obtain ⟨rfl, hj⟩ := hc
    rw [h2] at hg
    simp only [guardB] at hg
    split at hg
    · rename_i x hx
      injection hg with hg
      have hR := he t
      rw [hx] at hR
      simp only [R] at hR
      have ht : t < a.tmps.size := by
        rcases Nat.lt_or_ge t a.tmps.size with h' | h'
        · exact h'
        · rw [Array.getD_eq_getD_getElem?, Array.getElem?_eq_none h'] at hR
          cases hR
      rw [h1]
      simp only [yielded, hj, Option.bind_some]
      have : a.tmps[t]? = some (.bool x) := by
        rw [Array.getD_eq_getD_getElem?, Array.getElem?_eq_getElem ht] at hR
        rw [Array.getElem?_eq_getElem ht]
        simpa using hR
      rw [this]
      simp only
      rw [← hg]
      cases x <;> cases want <;> rfl
    · rename_i hx
      injection hg with hg
      have hR := he t
      rw [hx] at hR
      simp only [R] at hR
      rw [h1]
      simp only [yielded, hj, Option.bind_some]
      have : ∀ bb : Bool, a.tmps[t]? ≠ some (.bool bb) := fun bb h => by
        rw [Array.getD_eq_getD_getElem?, h] at hR
        cases hR
      rw [← hg]
      split
      · rename_i bb h; exact absurd h (this bb)
      · rfl
    · cases hg
  · cases hc

end
end Go.Hl
