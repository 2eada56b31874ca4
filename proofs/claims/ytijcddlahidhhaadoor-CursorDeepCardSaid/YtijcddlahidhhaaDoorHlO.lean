/-
  Regions that draw the order of their operations.
-/
import Derived.Test.YtijcddlahidhhaaDoorHlN
import Derived.OrdersIn
set_option linter.unusedSectionVars false
set_option linter.unusedVariables false
namespace Go.Hl
open Go

def envI (env : Env) (uses : List (Nat × Nat)) : Env := uses.map fun u => (u.1, look env u.2)

def dOne (nt : Nat) (σ : St) (env : Env) (i : Nat) (d : DI) : Prop :=
  match guardB (envI env d.uses) d.guard with
  | some true => match hstep σ (evX σ (envI env d.uses)) d.op with
    | some (v, σ', p) => p ∧ σ' = σ ∧ look env (nt + i) = v
    | none => False
  | some false => look env (nt + i) = .dead
  | none => False

def dOk (nt : Nat) (σ : St) (k : Nat) (env : Env) : Nat → List DI → Prop
  | _, [] => True
  | i, d :: D => (if d.eff = false ∧ d.lo ≤ k ∧ k ≤ d.hi then dOne nt σ env i d else True) ∧ dOk nt σ k env (i + 1) D

def dRun (nt : Nat) (σ : St) (k : Nat) : Nat → List DI → Env → Option Env
  | _, [], env => some env
  | i, d :: D, env => if d.eff = false ∧ d.lo = k then
      match guardB (envI env d.uses) d.guard with
      | some true => match hstep σ (evX σ (envI env d.uses)) d.op with
        | some (v, _, _) => dRun nt σ k (i + 1) D (putE env (nt + i) v)
        | none => none
      | some false => dRun nt σ k (i + 1) D (putE env (nt + i) .dead)
      | none => none
    else dRun nt σ k (i + 1) D env

def lowE (nt : Nat) : Env → Env
  | [] => []
  | (t, d) :: r => if t < nt then (t, d) :: lowE nt r else lowE nt r

def dFin (nt : Nat) (env : Env) : Nat → List DI → Env → Env
  | _, [], e => e
  | i, d :: D, e => match d.dst with
    | some t => dFin nt env (i + 1) D (putE e t (look env (nt + i)))
    | none => dFin nt env (i + 1) D e

structure DR (M : Md) (D : List DI) (k b : Nat) (env : Env) (listed : Array Bool) (g : G) (w : World) (σ : St) (a : Act) : Prop where
  rl : Rl M g w σ [] a
  size : listed.size = D.length
  old : ∀ t, t < M.nt → (∀ (j : Nat) d, D[j]? = some d → d.dst = some t → listed.getD j true = false) → R g w (look env t) (a.tmps.getD t Go.undef)
  val : ∀ (j : Nat) d t, D[j]? = some d → d.dst = some t → listed.getD j true = true → R g w (look env (M.nt + j)) (a.tmps.getD t Go.undef)
  clos : ∀ (i j : Nat), i < D.length → listed.getD i true = true → (ancOf D i).testBit j = true → listed.getD j true = true ∧ j < D.length
  eff : ∀ (m i : Nat), (effsFrom 0 D)[m]? = some i → (listed.getD i true = true ↔ m < k)
  bnd : ∀ (j : Nat) d, D[j]? = some d → d.eff = false → listed.getD j true = true → d.lo < b
  le : k ≤ (effsFrom 0 D).length

def unl (l : List Bool) : Nat := l.count false

def HDb (M : Md) (base : HPost) (kont : List It) (D : List DI) (k b : Nat) (env : Env) (σ : St) : Prop :=
  chained D (effsFrom 0 D) = true → ∀ ops, cmpDraw M.P M.nt ops D = true → ∀ fuel listed g w a, DR M D k b env listed g w σ a → unl listed.toList ≤ fuel → wpAnyIn M.F 0 M.P .any ops (Out M (KP M base kont)) fuel listed a w

def HD (M : Md) (base : HPost) (kont : List It) (D : List DI) (k : Nat) (env : Env) (σ : St) : Prop := HDb M base kont D k (k + 1) env σ
def HDp (M : Md) (base : HPost) (kont : List It) (D : List DI) (k : Nat) (env : Env) (σ : St) : Prop := HDb M base kont D k k env σ

theorem effsFrom_mem : ∀ {D : List DI} {i m j : Nat}, (effsFrom i D)[m]? = some j → i ≤ j ∧ ∃ d, D[j - i]? = some d ∧ d.eff = true
  | [], i, m, j, h => by simp [effsFrom] at h
  | d :: D, i, m, j, h => by
    simp only [effsFrom] at h
    split at h
    · rename_i he
      cases m with
      | zero =>
        simp at h
        subst h
        exact ⟨Nat.le_refl _, d, by simp, he⟩
      | succ m =>
        simp at h
        obtain ⟨h1, d', h2, h3⟩ := effsFrom_mem h
        refine ⟨by omega, d', ?_, h3⟩
        rw [show j - i = (j - (i + 1)) + 1 by omega]
        simpa using h2
    · obtain ⟨h1, d', h2, h3⟩ := effsFrom_mem h
      refine ⟨by omega, d', ?_, h3⟩
      rw [show j - i = (j - (i + 1)) + 1 by omega]
      simpa using h2

theorem mem_effsFrom : ∀ {D : List DI} {i j : Nat} {d : DI}, D[j]? = some d → d.eff = true → ∃ m : Nat, (effsFrom i D)[m]? = some (i + j)
  | [], i, j, d, h, _ => by simp at h
  | x :: D, i, 0, d, h, he => by
    simp at h
    subst h
    exact ⟨0, by simp [effsFrom, he]⟩
  | x :: D, i, j + 1, d, h, he => by
    simp at h
    obtain ⟨m, hm⟩ := mem_effsFrom (i := i + 1) h he
    rw [show i + 1 + j = i + (j + 1) by omega] at hm
    simp only [effsFrom]
    split
    · exact ⟨m + 1, by simpa using hm⟩
    · exact ⟨m, hm⟩

theorem effs_inj {D : List DI} : ∀ {i m m' j : Nat}, (effsFrom i D)[m]? = some j → (effsFrom i D)[m']? = some j → m = m' := by
  induction D with
  | nil => intro i m m' j h; simp [effsFrom] at h
  | cons d D ih =>
    intro i m m' j h h'
    simp only [effsFrom] at h h'
    split at h
    · rename_i he
      rw [if_pos he] at h'
      cases m with
      | zero =>
        cases m' with
        | zero => rfl
        | succ m' =>
          simp at h h'
          have := (effsFrom_mem h').1
          omega
      | succ m =>
        cases m' with
        | zero =>
          simp at h h'
          have := (effsFrom_mem h).1
          omega
        | succ m' =>
          simp at h h'
          rw [ih h h']
    · rename_i he
      rw [if_neg he] at h'
      exact ih h h'

theorem chained_spec {D : List DI} : ∀ {es : List Nat} {m a b : Nat}, chained D es = true → es[m]? = some a → es[m + 1]? = some b → (ancOf D b).testBit a = true
  | [], m, a, b, _, h, _ => by simp at h
  | [x], m, a, b, _, _, h => by simp at h
  | x :: y :: r, 0, a, b, hc, h1, h2 => by
    simp at h1 h2
    subst h1 h2
    simp only [chained, Bool.and_eq_true] at hc
    exact hc.1
  | x :: y :: r, m + 1, a, b, hc, h1, h2 => by
    simp only [chained, Bool.and_eq_true] at hc
    exact chained_spec (es := y :: r) hc.2 (by simpa using h1) (by simpa using h2)

theorem edgeBits_spec {anc : Nat → Nat} {i j : Nat} : ∀ {es : List Edge}, (edgeBits anc i es).testBit j = true → ∃ e ∈ es, Region.binds .any e = true ∧ (e.on = j ∨ (anc e.on).testBit j = true)
  | [], h => by simp [edgeBits] at h
  | e :: es, h => by
    simp only [edgeBits] at h
    split at h
    · rename_i hb
      rw [Nat.testBit_or, Nat.testBit_or, Bool.or_eq_true, Bool.or_eq_true] at h
      rcases h with (h | h) | h
      · rw [Nat.one_shiftLeft, Nat.testBit_two_pow] at h
        exact ⟨e, by simp, hb, .inl (by simpa using h)⟩
      · exact ⟨e, by simp, hb, .inr h⟩
      · obtain ⟨e', he, h'⟩ := edgeBits_spec h
        exact ⟨e', by simp [he], h'⟩
    · obtain ⟨e', he, h'⟩ := edgeBits_spec h
      exact ⟨e', by simp [he], h'⟩

theorem laterAll_spec {i t : Nat} : ∀ {D : List DI} {j0 j : Nat} {d : DI}, laterAll i t j0 D = true → D[j]? = some d → d.dst = some t → j0 + j = i ∨ d.anc.testBit i = true
  | [], j0, j, d, _, h, _ => by simp at h
  | x :: D, j0, 0, d, hl, h, hd => by
    simp at h
    subst h
    simp only [laterAll, Bool.and_eq_true, Bool.or_eq_true, hd, beq_self_eq_true, Bool.not_true, Bool.false_eq_true, false_or, beq_iff_eq] at hl
    exact hl.1
  | x :: D, j0, j + 1, d, hl, h, hd => by
    simp only [laterAll, Bool.and_eq_true] at hl
    have := laterAll_spec hl.2 (by simpa using h) hd
    rwa [show j0 + 1 + j = j0 + (j + 1) by omega] at this

theorem loOk_spec {anc : Nat} : ∀ {l : Nat} {es : List Nat}, loOk anc l es = true → ∀ m, m < l → ∃ e, es[m]? = some e ∧ anc.testBit e = true
  | 0, _, _, m, h => by omega
  | l + 1, [], h, _, _ => by simp [loOk] at h
  | l + 1, e :: es, h, m, hm => by
    simp only [loOk, Bool.and_eq_true] at h
    cases m with
    | zero => exact ⟨e, rfl, h.1⟩
    | succ m =>
      obtain ⟨e', h1, h2⟩ := loOk_spec h.2 m (by omega)
      exact ⟨e', by simpa using h1, h2⟩

theorem hiOk_spec {D : List DI} {i : Nat} : ∀ {h : Nat} {es : List Nat}, hiOk D i h es = true → ∀ m e, h ≤ m → es[m]? = some e → (ancOf D e).testBit i = true
  | h, [], _, m, e, _, he => by simp at he
  | 0, x :: es, hh, m, e, _, he => by
    simp only [hiOk, Bool.and_eq_true] at hh
    cases m with
    | zero => simp at he; subst he; exact hh.1
    | succ m => exact hiOk_spec hh.2 m e (Nat.zero_le _) (by simpa using he)
  | h + 1, x :: es, hh, m, e, hm, he => by
    simp only [hiOk] at hh
    cases m with
    | zero => omega
    | succ m => exact hiOk_spec hh m e (by omega) (by simpa using he)

theorem dstsOk_spec : ∀ {ds : List (Option Nat)} {i j : Nat} {t : Nat}, dstsOk ds = true → ds[i]? = some (some t) → ds[j]? = some (some t) → i = j
  | [], i, j, t, _, h, _ => by simp at h
  | d :: ds, i, j, t, hd, hi, hj => by
    simp only [dstsOk, Bool.and_eq_true] at hd
    cases i with
    | zero =>
      cases j with
      | zero => rfl
      | succ j =>
        simp at hi hj
        subst hi
        simp only [Bool.not_eq_true', List.contains_eq_mem, decide_eq_false_iff_not] at hd
        exact absurd (List.mem_of_getElem? hj) hd.1
    | succ i =>
      cases j with
      | zero =>
        simp at hi hj
        subst hj
        simp only [Bool.not_eq_true', List.contains_eq_mem, decide_eq_false_iff_not] at hd
        exact absurd (List.mem_of_getElem? hi) hd.1
      | succ j =>
        simp at hi hj
        rw [dstsOk_spec hd.2 hi hj]

theorem cmpDs_spec {P : Program} {nt : Nat} {ops : Array Oper} {D : List DI} : ∀ {os : List Oper} {ds : List DI} {i : Nat}, cmpDs P nt ops D i os ds = true → os.length = ds.length ∧ ∀ (j : Nat) o d, os[j]? = some o → ds[j]? = some d → cmpD1 P nt ops D (i + j) o d = true
  | [], [], i, _ => ⟨rfl, fun j o d h => by simp at h⟩
  | [], _ :: _, i, h => by simp [cmpDs] at h
  | _ :: _, [], i, h => by simp [cmpDs] at h
  | o :: os, d :: ds, i, h => by
    simp only [cmpDs, Bool.and_eq_true] at h
    obtain ⟨h1, h2⟩ := cmpDs_spec h.2
    refine ⟨by simp [h1], fun j o' d' ho hd => ?_⟩
    cases j with
    | zero =>
      simp at ho hd
      subst ho hd
      exact h.1
    | succ j =>
      have := h2 j o' d' (by simpa using ho) (by simpa using hd)
      rwa [show i + 1 + j = i + (j + 1) by omega] at this

theorem dOk_spec {nt k : Nat} {σ : St} {env : Env} : ∀ {D : List DI} {i j : Nat} {d : DI}, dOk nt σ k env i D → D[j]? = some d → d.eff = false → d.lo ≤ k → k ≤ d.hi → dOne nt σ env (i + j) d
  | [], i, j, d, _, h, _, _, _ => by simp at h
  | x :: D, i, 0, d, ho, h, h1, h2, h3 => by
    simp at h
    subst h
    simp only [dOk] at ho
    rw [if_pos ⟨h1, h2, h3⟩] at ho
    exact ho.1
  | x :: D, i, j + 1, d, ho, h, h1, h2, h3 => by
    simp only [dOk] at ho
    have := dOk_spec ho.2 (by simpa using h) h1 h2 h3
    rwa [show i + 1 + j = i + (j + 1) by omega] at this

theorem look_envI {env : Env} : ∀ {uses : List (Nat × Nat)} {t : Nat}, look (envI env uses) t = .undef ∨ ∃ s, (t, s) ∈ uses ∧ look (envI env uses) t = look env s
  | [], t => .inl rfl
  | u :: us, t => by
    simp only [envI, List.map_cons, look]
    split
    · rename_i e
      exact .inr ⟨u.2, by rw [← e]; simp, rfl⟩
    · rcases look_envI (uses := us) (t := t) with h | ⟨s, hs, h⟩
      · exact .inl h
      · exact .inr ⟨s, by simp [hs], h⟩

theorem look_lowE (nt : Nat) : ∀ (env : Env) (t : Nat), look (lowE nt env) t = if t < nt then look env t else .undef
  | [], t => by simp [lowE, look]
  | (k, d) :: r, t => by
    simp only [lowE]
    split
    · rename_i hk
      simp only [look]
      rw [look_lowE nt r t]
      by_cases e : k = t
      · subst e; simp [hk]
      · simp [e]
    · rename_i hk
      rw [look_lowE nt r t]
      simp only [look]
      by_cases e : k = t
      · subst e; simp [hk]
      · simp [e]

theorem look_dFin (nt : Nat) (env : Env) : ∀ (D : List DI) (i : Nat) (e : Env) (t : Nat), dstsOk (D.map (·.dst)) = true →
    ((∀ (j : Nat) d, D[j]? = some d → d.dst ≠ some t) → look (dFin nt env i D e) t = look e t) ∧
    (∀ (j : Nat) d, D[j]? = some d → d.dst = some t → look (dFin nt env i D e) t = look env (nt + (i + j)))
  | [], i, e, t, _ => ⟨fun _ => rfl, fun j d h => by simp at h⟩
  | x :: D, i, e, t, hd => by
    have hd' := hd
    simp only [List.map_cons, dstsOk, Bool.and_eq_true] at hd
    simp only [dFin]
    cases hx : x.dst with
    | none =>
      obtain ⟨h1, h2⟩ := look_dFin nt env D (i + 1) e t hd.2
      refine ⟨fun h => h1 fun j d hj => h (j + 1) d (by simpa using hj), fun j d hj hdt => ?_⟩
      cases j with
      | zero => simp at hj; subst hj; rw [hx] at hdt; cases hdt
      | succ j =>
        have := h2 j d (by simpa using hj) hdt
        rwa [show i + 1 + j = i + (j + 1) by omega] at this
    | some s =>
      simp only
      obtain ⟨h1, h2⟩ := look_dFin nt env D (i + 1) (putE e s (look env (nt + i))) t hd.2
      refine ⟨fun h => ?_, fun j d hj hdt => ?_⟩
      · rw [h1 fun j d hj => h (j + 1) d (by simpa using hj), look_putE, if_neg (fun e => h 0 x rfl (by rw [hx, e]))]
      · cases j with
        | zero =>
          simp at hj
          subst hj
          rw [hx] at hdt
          injection hdt with hdt
          subst hdt
          rw [h1 (fun j d hj hdj => ?_), look_putE, if_pos rfl, Nat.add_zero]
          have := dstsOk_spec (i := 0) (j := j + 1) (t := s) hd' (by simp [hx]) (by simp [hj, hdj])
          omega
        | succ j =>
          have := h2 j d (by simpa using hj) hdt
          rwa [show i + 1 + j = i + (j + 1) by omega] at this

end Go.Hl
