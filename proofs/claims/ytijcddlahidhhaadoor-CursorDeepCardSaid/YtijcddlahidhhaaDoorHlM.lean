/-
  Straight-line code, run at once.
-/
import Derived.Test.YtijcddlahidhhaaDoorHlL
set_option linter.unusedSectionVars false
set_option linter.unusedVariables false
set_option linter.unusedSimpArgs false
namespace Go.Hl
open Go

section
variable {M : Md} {base : HPost} {k : List It}

end

def hexit (id : Nat) : List It → Option (List It)
  | [] => none
  | .inBlock j :: k => if id = j then some k else hexit id k
  | _ :: k => hexit id k

def pickV (σ : St) (env e1 : Env) (tt : List Nat) (want x : Bool) (a b : X) : D :=
  if x then (if want then evX σ e1 a else evX σ (killsE env tt) a) else (if want then evX σ (killsE env tt) b else evX σ e1 b)

def delN : List Nat → Nat → List Nat
  | [], _ => []
  | x :: xs, t => if x = t then delN xs t else x :: delN xs t
def delsN (dd : List Nat) : List Nat → List Nat
  | [] => dd
  | t :: ts => delsN (delN dd t) ts
def addB (v : D) (t : Nat) (dd : List Nat) : List Nat := match v with
  | .bool _ => t :: dd
  | _ => dd

theorem delN_mem {s t : Nat} : ∀ {dd : List Nat}, s ∈ delN dd t → s ∈ dd ∧ s ≠ t
  | [], h => by cases h
  | x :: xs, h => by
    simp only [delN] at h
    split at h
    · have := delN_mem h
      exact ⟨List.mem_cons_of_mem _ this.1, this.2⟩
    · rename_i hne
      rcases List.mem_cons.1 h with e | h
      · subst e; exact ⟨List.mem_cons_self, hne⟩
      · have := delN_mem h
        exact ⟨List.mem_cons_of_mem _ this.1, this.2⟩
theorem delsN_mem {s : Nat} : ∀ {ts dd : List Nat}, s ∈ delsN dd ts → s ∈ dd ∧ s ∉ ts
  | [], dd, h => ⟨h, fun h => by cases h⟩
  | t :: ts, dd, h => by
    have h1 := delsN_mem (ts := ts) h
    have h2 := delN_mem h1.1
    exact ⟨h2.1, fun hm => by rcases List.mem_cons.1 hm with e | hm; exact h2.2 e; exact h1.2 hm⟩
theorem addB_mem {s t : Nat} {v : D} {dd : List Nat} (h : s ∈ addB v t dd) : s = t ∨ s ∈ dd := by
  unfold addB at h
  split at h
  · exact List.mem_cons.1 h
  · exact .inr h

def runG (σ : St) : Nat → Nat → Bool → List Nat → List HI → Env → Option (Env × Prop × List Nat × List HI)
  | 0, _, _, _, l, env => some (env, True, [], l)
  | _ + 1, _, _, _, [], env => some (env, True, [], [])
  | n + 1, t, want, dd, ⟨d, g, op⟩ :: l, env =>
    match op with
    | .kill ts => if t ∈ ts then some (env, True, [], ⟨d, g, .kill ts⟩ :: l) else
      match runG σ n t want (delsN dd ts) l (killsE env ts) with
      | some (e, p, tt, r) => some (e, p, ts ++ tt, r)
      | none => none
    | op => match g, d with
      | some (t', want'), some dt =>
        if t' = t then
          if want' = want ∧ dt ≠ t then
            match hval σ (evX σ env) op with
            | some (v, p) => match runG σ n t want (addB v dt dd) l (putE env dt v) with
              | some (e, q, tt, r) => some (e, p ∧ q, dt :: tt, r)
              | none => none
            | none => none
          else some (env, True, [], ⟨d, g, op⟩ :: l)
        else if t' ∈ dd then
          match look env t' with
          | .bool x => match runG σ n t' want' [] (⟨d, g, op⟩ :: l) env with
            | some (e1, p, tt, r) => match r with
              | ⟨some d2, some (t2, w2), .pick (.tmp t3) a b⟩ :: l2 =>
                if t3 = t' ∧ t2 = t ∧ w2 = want ∧ d2 ≠ t ∧ t ∉ tt then
                  match runG σ n t want (d2 :: delsN dd tt) l2 (putE (killsE env tt) d2 (pickV σ env e1 tt want' x a b)) with
                  | some (e, q, tt2, r2) => some (e, (x = want' → p) ∧ q, d2 :: (tt ++ tt2), r2)
                  | none => none
                else some (env, True, [], ⟨d, g, op⟩ :: l)
              | _ => some (env, True, [], ⟨d, g, op⟩ :: l)
            | none => none
          | _ => some (env, True, [], ⟨d, g, op⟩ :: l)
        else some (env, True, [], ⟨d, g, op⟩ :: l)
      | _, _ => some (env, True, [], ⟨d, g, op⟩ :: l)

def hgrp (σ : St) (env : Env) (t : Nat) (want x : Bool) (l : List HI) : Option (Nat × D × Prop × Env × List HI) :=
  match runG σ 60 t want [] l env with
  | some (e1, p, tt, r) => match r with
    | ⟨some d, none, .pick (.tmp t') a b⟩ :: l2 =>
      if t' = t then some (d, pickV σ env e1 tt want x a b, p, killsE env tt, l2)
      else none
    | _ => none
  | none => none

def hone (σ : St) (env : Env) (g : Option (Nat × Bool)) (op : HO) (K : D → St → Prop) : Prop :=
  match g with
  | none => match hstep σ (evX σ env) op with
    | some (v, σ', p) => p ∧ K v σ'
    | none => False
  | some (t, want) => match look env t with
    | .bool x => (x = want → match hstep σ (evX σ env) op with
        | some (v, σ', p) => p ∧ K v σ'
        | none => False) ∧ (x = !want → K .dead σ)
    | .dead => K .dead σ
    | _ => False

def condJ (b : Bool) (P Q : Prop) : Prop := (b = true → P) ∧ (b = false → Q)

def gdV : D → Bool → Bool
  | .bool x, true => !x
  | .bool x, false => x
  | .dead, _ => true
  | _, _ => false
def gdB (env : Env) : Option (Nat × Bool) → Bool
  | none => false
  | some (t, w) => gdV (look env t) w
theorem gdB_guard {env : Env} {g : Option (Nat × Bool)} (h : gdB env g = true) : guardB env g = some false := by
  cases g with
  | none => cases h
  | some tw =>
    obtain ⟨t, w⟩ := tw
    simp only [gdB] at h
    simp only [guardB]
    cases hl : look env t <;> rw [hl] at h <;> simp only [gdV, Bool.false_eq_true] at h ⊢
    rename_i b
    cases b <;> cases w <;> simp_all

def hgo (M : Md) (base : HPost) : Nat → List It → Env → St → Prop
  | 0, k, env, σ => HX M base k env σ
  | _ + 1, [], env, σ => base .normal env σ
  | n + 1, .inBlock _ :: k, env, σ => hgo M base n k env σ
  | _ + 1, .stop I :: _, env, σ => I env σ
  | n + 1, .code c :: k, env, σ =>
    match c with
    | .skip => hgo M base n k env σ
    | .ret => base .ret env σ
    | .seq x y => hgo M base n (.code x :: .code y :: k) env σ
    | .block id x => hgo M base n (.code x :: .inBlock id :: k) env σ
    | .ops l => hgo M base n (.ops l :: k) env σ
    | .cond x p q => match evX σ env x with
      | .bool b => (b = true → hgo M base n (.code p :: k) env σ) ∧ (b = false → hgo M base n (.code q :: k) env σ)
      | _ => False
    | .exit id => match hexit id k with
      | some k' => hgo M base n k' env σ
      | none => HX M base (.code (.exit id) :: k) env σ
    | c => HX M base (.code c :: k) env σ
  | n + 1, .ops [] :: k, env, σ => hgo M base n k env σ
  | n + 1, .ops (⟨d, g, op⟩ :: l) :: k, env, σ =>
    match op with
    | .kill ts => hgo M base n (.ops l :: k) (killsE env ts) σ
    | .call f args => condJ (gdB env g) (hgo M base n (.ops l :: k) (putO env d .dead) σ) (HX M base (.ops (⟨d, g, .call f args⟩ :: l) :: k) env σ)
    | .eqSl neg x => condJ (gdB env g) (hgo M base n (.ops l :: k) (putO env d .dead) σ) (HX M base (.ops (⟨d, g, .eqSl neg x⟩ :: l) :: k) env σ)
    | op => match g with
      | none => match hstep σ (evX σ env) op with
        | some (v, σ', p) => p ∧ hgo M base n (.ops l :: k) (putO env d v) σ'
        | none => False
      | some (t, want) => match look env t with
        | .bool x => match hgrp σ env t want x (⟨d, some (t, want), op⟩ :: l) with
          | some (d', v, p, e, l2) => (x = want → p) ∧ hgo M base n (.ops l2 :: k) (putE e d' v) σ
          | none => hone σ env (some (t, want)) op fun v σ' => hgo M base n (.ops l :: k) (putO env d v) σ'
        | .dead => hgo M base n (.ops l :: k) (putO env d .dead) σ
        | _ => False

section
variable {M : Md} {base : HPost}

theorem KP_exit (id : Nat) : ∀ {k k' : List It} {env : Env} {σ : St}, hexit id k = some k' → HX M base k' env σ → KP M base k (.exit id) env σ
  | [], k', env, σ, h, hx => by simp [hexit] at h
  | .inBlock j :: k, k', env, σ, h, hx => by
    simp only [hexit] at h
    simp only [KP]
    split at h
    · rename_i e
      injection h with h
      subst h
      rw [if_pos e]
      exact hx
    · rename_i e
      rw [if_neg e]
      exact KP_exit id h hx
  | .code _ :: k, k', env, σ, h, hx => by simp only [hexit] at h; exact KP_exit id (k := k) h hx
  | .ops _ :: k, k', env, σ, h, hx => by simp only [hexit] at h; exact KP_exit id (k := k) h hx
  | .stop _ :: k, k', env, σ, h, hx => by simp only [hexit] at h; exact KP_exit id (k := k) h hx

theorem hstep_hval {σ : St} {ev : X → D} {op : HO} {v : D} {p : Prop} (h : hval σ ev op = some (v, p)) : hstep σ ev op = some (v, σ, p) := by
  cases op <;> first
    | (simp only [hstep, h]; done)
    | (simp [hval] at h; done)

theorem hx_le {k : List It} {l : List HI} {env env' : Env} {σ : St} (hl : leE env' env) (h : HX M base (.ops l :: k) env' σ) : HX M base (.ops l :: k) env σ :=
  fun ops i hc g w a hr => h ops i hc g w a (hr.withEnv (hr.er.le hl))

theorem look_killsE : ∀ (ts : List Nat) (env : Env) (s : Nat), look (killsE env ts) s = if s ∈ ts then .undef else look env s
  | [], env, s => by simp [killsE]
  | t :: ts, env, s => by
    simp only [killsE]
    rw [look_killsE ts (killE env t) s, look_killE]
    by_cases h1 : s ∈ ts
    · simp [h1]
    · by_cases h2 : s = t
      · simp [h1, h2]
      · simp [h1, h2]

def agE (tt : List Nat) (e e1 : Env) : Prop := ∀ s, s ∉ tt → look e1 s = look e s

theorem agE.le {tt : List Nat} {e e1 : Env} (h : agE tt e e1) : leE (killsE e tt) e1 := fun s => by
  rw [look_killsE]
  split
  · exact .inl rfl
  · rename_i hs
    exact .inr (h s hs).symm

theorem evX_le {σ : St} {tt : List Nat} {e e1 : Env} (h : agE tt e e1) (x : X) : evX σ (killsE e tt) x = .undef ∨ evX σ (killsE e tt) x = evX σ e1 x := by
  cases x with
  | tmp t => exact h.le t
  | const d => exact .inr rfl
  | fn f => exact .inr rfl
  | glob g => exact .inr rfl

theorem leE_putE {env' env : Env} {t : Nat} {d d' : D} (h : leE env' env) (hd : d' = .undef ∨ d' = d) : leE (putE env' t d') (putE env t d) := fun s => by
  rw [look_putE, look_putE]
  split
  · exact hd
  · exact h s

theorem pick_le {σ : St} {env e1 e2 : Env} {tt : List Nat} {want x : Bool} {a b : X} (h1 : x = want → e2 = e1) (h1a : agE tt env e1) (h2 : agE tt env e2) :
    pickV σ env e1 tt want x a b = .undef ∨ pickV σ env e1 tt want x a b = if x then evX σ e2 a else evX σ e2 b := by
  unfold pickV
  by_cases e : x = want
  · have := h1 e
    subst this
    subst e
    cases x
    · exact .inr rfl
    · exact .inr rfl
  · cases x <;> cases want <;> first
      | exact absurd rfl e
      | exact evX_le h2 b
      | exact evX_le h2 a

theorem pick_step {σ : St} {env e1 e2 : Env} {tt : List Nat} {want x : Bool} {t d : Nat} {gd : Option (Nat × Bool)} {a b : X} {l2 : List HI} {k : List It} (h1 : x = want → e2 = e1) (h1a : agE tt env e1) (h2 : agE tt env e2) (hx : look e2 t = .bool x) (hg : guardB e2 gd = some true)
    (hn : HX M base (.ops l2 :: k) (putE (killsE env tt) d (pickV σ env e1 tt want x a b)) σ) : HX M base (.ops (⟨some d, gd, .pick (.tmp t) a b⟩ :: l2) :: k) e2 σ := by
  have ht' : evX σ e2 (.tmp t) = .bool x := hx
  refine hx_op (d := if x then evX σ e2 a else evX σ e2 b) (σ' := σ) (p := True) hg (hstep_hval (by simp only [hval, ht'])) trivial ?_
  exact hx_le (leE_putE h2.le (pick_le h1 h1a h2)) hn

theorem runG_sound {σ : St} {k : List It} : ∀ (n : Nat) {t : Nat} {want : Bool} {dd : List Nat} {l : List HI} {env e1 : Env} {p : Prop} {tt : List Nat} {r : List HI}, runG σ n t want dd l env = some (e1, p, tt, r) →
    agE tt env e1 ∧ t ∉ tt ∧ (look env t = .bool want → p → HX M base (.ops r :: k) e1 σ → HX M base (.ops l :: k) env σ) ∧
      (∀ eb, (look eb t = .bool (!want) ∨ look eb t = .dead) → (∀ s ∈ dd, look eb s = .dead) → ∃ e2, agE tt eb e2 ∧ (HX M base (.ops r :: k) e2 σ → HX M base (.ops l :: k) eb σ))
  | 0, t, want, dd, l, env, e1, p, tt, r, h => by
    simp only [runG, Option.some.injEq, Prod.mk.injEq] at h
    obtain ⟨rfl, rfl, rfl, rfl⟩ := h
    exact ⟨fun _ _ => rfl, by simp, fun _ _ h => h, fun eb _ _ => ⟨eb, fun _ _ => rfl, fun h => h⟩⟩
  | n + 1, t, want, dd, [], env, e1, p, tt, r, h => by
    simp only [runG, Option.some.injEq, Prod.mk.injEq] at h
    obtain ⟨rfl, rfl, rfl, rfl⟩ := h
    exact ⟨fun _ _ => rfl, by simp, fun _ _ h => h, fun eb _ _ => ⟨eb, fun _ _ => rfl, fun h => h⟩⟩
  | n + 1, t, want, dd, ⟨d, g, op⟩ :: l, env, e1, p, tt, r, h => by
    have triv : some (env, True, [], ⟨d, g, op⟩ :: l) = some (e1, p, tt, r) → agE tt env e1 ∧ t ∉ tt ∧ (look env t = .bool want → p → HX M base (.ops r :: k) e1 σ → HX M base (.ops (⟨d, g, op⟩ :: l) :: k) env σ) ∧
        (∀ eb, (look eb t = .bool (!want) ∨ look eb t = .dead) → (∀ s ∈ dd, look eb s = .dead) → ∃ e2, agE tt eb e2 ∧ (HX M base (.ops r :: k) e2 σ → HX M base (.ops (⟨d, g, op⟩ :: l) :: k) eb σ)) := fun h => by
      simp only [Option.some.injEq, Prod.mk.injEq] at h
      obtain ⟨rfl, rfl, rfl, rfl⟩ := h
      exact ⟨fun _ _ => rfl, by simp, fun _ _ h => h, fun eb _ _ => ⟨eb, fun _ _ => rfl, fun h => h⟩⟩
    have notw : ∀ {eb : Env}, (look eb t = .bool (!want) ∨ look eb t = .dead) → guardB eb (some (t, want)) = some false := fun {eb} hb => by
      simp only [guardB]
      rcases hb with hb | hb <;> rw [hb]
      cases want <;> rfl
    unfold runG at h
    split at h
    · rename_i ts
      split at h
      · exact triv h
      · rename_i hts
        split at h
        · rename_i e p' tt' r' hr
          simp only [Option.some.injEq, Prod.mk.injEq] at h
          obtain ⟨rfl, rfl, rfl, rfl⟩ := h
          obtain ⟨h1, h2, h3, h4⟩ := runG_sound (k := k) n hr
          have hag : ∀ env, agE ts env (killsE env ts) := fun env s hs => by rw [look_killsE, if_neg hs]
          refine ⟨fun s hs => ?_, by simp [hts, h2], fun ht hp hx => hx_kill (h3 (by rw [hag env t hts]; exact ht) hp hx), fun eb ht hd => ?_⟩
          · simp only [List.mem_append, not_or] at hs
            rw [h1 s hs.2, hag env s hs.1]
          · obtain ⟨e2, he2, hx2⟩ := h4 (killsE eb ts) (by rw [hag eb t hts]; exact ht) (fun s hs => by
              have hs := delsN_mem hs
              rw [hag eb s hs.2]; exact hd s hs.1)
            refine ⟨e2, fun s hs => ?_, fun hx => hx_kill (hx2 hx)⟩
            simp only [List.mem_append, not_or] at hs
            rw [he2 s hs.2, hag eb s hs.1]
        · cases h
    · rename_i hnk
      have hk : isKill op = false := by
        cases op <;> first
          | rfl
          | exact absurd rfl (hnk _)
      split at h
      · rename_i t' want' dt
        split at h
        · rename_i htt
          subst htt
          split at h
          · rename_i hc
            obtain ⟨rfl, hdt⟩ := hc
            split at h
            · rename_i v p1 hv
              split at h
              · rename_i e q tt' r' hr
                simp only [Option.some.injEq, Prod.mk.injEq] at h
                obtain ⟨rfl, rfl, rfl, rfl⟩ := h
                obtain ⟨h1, h2, h3, h4⟩ := runG_sound (k := k) n hr
                have hlk : ∀ eb v, look (putE eb dt v) t' = look eb t' := fun eb v => by rw [look_putE, if_neg (fun e => hdt e.symm)]
                refine ⟨fun s hs => ?_, by simp [h2]; exact fun e => hdt e.symm, fun ht hp hx => ?_, fun eb ht hd => ?_⟩
                · simp only [List.mem_cons, not_or] at hs
                  rw [h1 s hs.2, look_putE, if_neg hs.1]
                · refine hx_op (by simp only [guardB, ht]; simp) (hstep_hval hv) hp.1 ?_
                  exact h3 (by rw [hlk]; exact ht) hp.2 hx
                · obtain ⟨e2, he2, hx2⟩ := h4 (putE eb dt .dead) (by rw [hlk]; exact ht) (fun s hs => by
                    rw [look_putE]
                    split
                    · rfl
                    · rename_i hne
                      rcases addB_mem hs with e | hs
                      · exact absurd e hne
                      · exact hd s hs)
                  refine ⟨e2, fun s hs => ?_, fun hx => hx_op_not hk (notw ht) (hx2 hx)⟩
                  simp only [List.mem_cons, not_or] at hs
                  rw [he2 s hs.2, look_putE, if_neg hs.1]
              · cases h
            · cases h
          · exact triv h
        · rename_i htt
          split at h
          · rename_i hdd
            split at h
            · rename_i x hx
              split at h
              · rename_i e0 p0 tt0 r0 hr0
                obtain ⟨i1, i2, i3, i4⟩ := runG_sound (k := k) n hr0
                split at h
                · rename_i d2 t2 w2 t3 a b l2
                  split at h
                  · rename_i hc
                    obtain ⟨rfl, rfl, rfl, hd2, ht0⟩ := hc
                    split at h
                    · rename_i e q tt2 r2 hr
                      simp only [Option.some.injEq, Prod.mk.injEq] at h
                      obtain ⟨rfl, rfl, rfl, rfl⟩ := h
                      obtain ⟨h1, h2, h3, h4⟩ := runG_sound (k := k) n hr
                      have hlk : ∀ eb v, look (putE eb d2 v) t2 = look eb t2 := fun eb v => by rw [look_putE, if_neg (fun e => hd2 e.symm)]
                      have hks : look (killsE env tt0) t2 = look env t2 := by rw [look_killsE, if_neg ht0]
                      refine ⟨fun s hs => ?_, ?_, fun ht hp hn => ?_, fun eb ht hd => ?_⟩
                      · simp only [List.mem_cons, List.mem_append, not_or] at hs
                        rw [h1 s hs.2.2, look_putE, if_neg hs.1, look_killsE, if_neg hs.2.1]
                      · simp only [List.mem_cons, List.mem_append, not_or]
                        exact ⟨fun e => hd2 e.symm, ht0, h2⟩
                      · have hn' := h3 (by rw [hlk, hks]; exact ht) hp.2 hn
                        by_cases hw : x = want'
                        · subst hw
                          refine i3 hx (hp.1 rfl) (pick_step (fun _ => rfl) i1 i1 (by rw [i1 t3 i2, hx]) ?_ hn')
                          simp only [guardB, i1 t2 ht0, ht]; simp
                        · have hw' : x = !want' := by cases x <;> cases want' <;> simp_all
                          obtain ⟨e2, he2, hx2⟩ := i4 env (.inl (by rw [hx, hw'])) (fun _ h => by cases h)
                          refine hx2 (pick_step (fun e => absurd e hw) i1 he2 (by rw [he2 t3 i2, hx]) ?_ hn')
                          simp only [guardB, he2 t2 ht0, ht]; simp
                      · obtain ⟨e2, he2, hx2⟩ := i4 eb (.inr (hd _ hdd)) (fun _ h => by cases h)
                        obtain ⟨e3, he3, hx3⟩ := h4 (putE e2 d2 .dead) (by rw [hlk, he2 t2 ht0]; exact ht) (fun s hs => by
                          rw [look_putE]
                          split
                          · rfl
                          · rename_i hne
                            rcases List.mem_cons.1 hs with e | hs
                            · exact absurd e hne
                            · have hs := delsN_mem hs
                              rw [he2 s hs.2]
                              exact hd s hs.1)
                        refine ⟨e3, fun s hs => ?_, fun hx => hx2 (hx_op_not rfl (notw (by rw [he2 t2 ht0]; exact ht)) (hx3 hx))⟩
                        simp only [List.mem_cons, List.mem_append, not_or] at hs
                        rw [he3 s hs.2.2, look_putE, if_neg hs.1, he2 s hs.2.1]
                    · cases h
                  · exact triv h
                · exact triv h
              · cases h
            · exact triv h
          · exact triv h
      · exact triv h

theorem hgrp_sound {σ : St} {env e : Env} {t d' : Nat} {want x : Bool} {l l2 : List HI} {v : D} {p : Prop} {k : List It} (ht : look env t = .bool x) (h : hgrp σ env t want x l = some (d', v, p, e, l2))
    (hp : x = want → p) (hn : HX M base (.ops l2 :: k) (putE e d' v) σ) : HX M base (.ops l :: k) env σ := by
  unfold hgrp at h
  split at h; rotate_left; · cases h
  rename_i e1 p' tt r hr
  split at h; rotate_left; · cases h
  rename_i d t' a b l2'
  split at h; rotate_left; · cases h
  rename_i e
  subst e
  simp only [Option.some.injEq, Prod.mk.injEq] at h
  obtain ⟨rfl, rfl, rfl, rfl, rfl⟩ := h
  obtain ⟨h1, h2, h3, h4⟩ := runG_sound (M := M) (base := base) (k := k) 60 hr
  by_cases hw : x = want
  · subst hw
    exact h3 ht (hp rfl) (pick_step (fun _ => rfl) h1 h1 (by rw [h1 t' h2, ht]) rfl hn)
  · have hw' : x = !want := by cases x <;> cases want <;> simp_all
    obtain ⟨e2, he2, hx2⟩ := h4 env (.inl (by rw [ht, hw'])) (fun _ h => by cases h)
    exact hx2 (pick_step (fun e => absurd e hw) h1 he2 (by rw [he2 t' h2, ht]) rfl hn)

theorem hgo_sound : ∀ (n : Nat) {k : List It} {env : Env} {σ : St}, hgo M base n k env σ → HX M base k env σ
  | 0, k, env, σ, h => h
  | n + 1, [], env, σ, h => h
  | n + 1, .inBlock _ :: k, env, σ, h => hx_inBlock (hgo_sound n h)
  | n + 1, .stop I :: k, env, σ, h => hx_stop h
  | n + 1, .code c :: k, env, σ, h => by
    cases c with
    | skip => exact hx_skip (hgo_sound n h)
    | ret => exact hx_ret h
    | seq x y => exact hx_seq (hgo_sound n h)
    | block id x => exact hx_block (hgo_sound n h)
    | ops l => exact hx_ops (hgo_sound n h)
    | cond x p q =>
      simp only [hgo] at h
      split at h
      · rename_i b hb
        refine hx_cond hb ?_
        cases b
        · exact hgo_sound n (h.2 rfl)
        · exact hgo_sound n (h.1 rfl)
      · exact h.elim
    | exit id =>
      simp only [hgo] at h
      split at h
      · rename_i k' hk
        exact hx_exit (KP_exit id hk (hgo_sound n h))
      · exact h
    | loop c => exact h
    | refuse => exact h
    | draw l => exact h
    | range f ps a b => exact h
  | n + 1, .ops [] :: k, env, σ, h => hx_ops_nil (hgo_sound n h)
  | n + 1, .ops (⟨d, g, op⟩ :: l) :: k, env, σ, h => by
    have step : ∀ {op : HO}, (∀ ts, op ≠ .kill ts) → (∀ f args, op ≠ .call f args) →
        (match (motive := Option (Nat × Bool) → Prop) g with
          | none => match hstep σ (evX σ env) op with
            | some (v, σ', p) => p ∧ hgo M base n (.ops l :: k) (putO env d v) σ'
            | none => False
          | some (t, want) => match look env t with
            | .bool x => match hgrp σ env t want x (⟨d, some (t, want), op⟩ :: l) with
              | some (d', v, p, e, l2) => (x = want → p) ∧ hgo M base n (.ops l2 :: k) (putE e d' v) σ
              | none => hone σ env (some (t, want)) op fun v σ' => hgo M base n (.ops l :: k) (putO env d v) σ'
            | .dead => hgo M base n (.ops l :: k) (putO env d .dead) σ
            | _ => False) → HX M base (.ops (⟨d, g, op⟩ :: l) :: k) env σ := by
      intro op hnk hnc h
      have one : (match hstep σ (evX σ env) op with
            | some (v, σ', p) => p ∧ hgo M base n (.ops l :: k) (putO env d v) σ'
            | none => False) → guardB env g = some true → HX M base (.ops (⟨d, g, op⟩ :: l) :: k) env σ := by
        intro h hg
        split at h
        · rename_i v σ1 p hs
          exact hx_op hg hs h.1 (hgo_sound n h.2)
        · exact h.elim
      cases g with
      | none => exact one h rfl
      | some tw =>
        obtain ⟨t, want⟩ := tw
        simp only at h
        split at h
        · rename_i x hx
          split at h
          · rename_i d' v p e l2 hgr
            exact hgrp_sound hx hgr h.1 (hgo_sound n h.2)
          · simp only [hone, hx] at h
            by_cases e : x = want
            · exact one (h.1 e) (by simp only [guardB, hx]; simp [e])
            · refine hx_op_not ?_ ?_ (hgo_sound n (h.2 (by cases x <;> cases want <;> simp_all)))
              · cases op <;> first
                  | rfl
                  | exact absurd rfl (hnk _)
                  | exact absurd rfl (hnc _ _)
              · simp only [guardB, hx]
                simp [e]
        · rename_i hx
          refine hx_op_not ?_ (by simp only [guardB, hx]) (hgo_sound n h)
          cases op <;> first
            | rfl
            | exact absurd rfl (hnk _)
            | exact absurd rfl (hnc _ _)
        · exact h.elim
    cases op
    case kill ts => exact hx_kill (hgo_sound n h)
    case call f args =>
      cases hb : gdB env g
      · exact h.2 hb
      · exact hx_op_not rfl (gdB_guard hb) (hgo_sound n (h.1 hb))
    case eqSl neg x =>
      cases hb : gdB env g
      · exact h.2 hb
      · exact hx_op_not rfl (gdB_guard hb) (hgo_sound n (h.1 hb))
    all_goals exact step (fun _ e => by cases e) (fun _ _ e => by cases e) h

end

abbrev GR := Option (Env × Prop × List Nat × List HI)

def bindG (o : Option (D × Prop)) (k : D → Prop → GR) : GR := match o with
  | some (v, p) => k v p
  | none => none
def addG (tt : List Nat) (p : Prop) : GR → GR
  | some (e, q, tt2, r) => some (e, p ∧ q, tt ++ tt2, r)
  | none => none
def nestL (lk : D) (k : Bool → GR) (stop : GR) : GR := match lk with
  | .bool x => k x
  | _ => stop
def nestK (σ : St) (n t : Nat) (want : Bool) (dd : List Nat) (env : Env) (t' : Nat) (want' : Bool) (stop : List HI) (x : Bool) : GR → GR
  | some (e1, p, tt, r) => match r with
    | ⟨some d2, some (t2, w2), .pick (.tmp t3) a b⟩ :: l2 =>
      if t3 = t' ∧ t2 = t ∧ w2 = want ∧ d2 ≠ t ∧ t ∉ tt then
        addG (d2 :: tt) (x = want' → p) (runG σ n t want (d2 :: delsN dd tt) l2 (putE (killsE env tt) d2 (pickV σ env e1 tt want' x a b)))
      else some (env, True, [], stop)
    | _ => some (env, True, [], stop)
  | none => none

section
variable {σ : St} {n t : Nat} {want : Bool} {dd : List Nat} {env : Env} {l : List HI}

theorem runG_kill' {d : Option Nat} {g : Option (Nat × Bool)} {ts : List Nat} (h : t ∉ ts) : runG σ (n + 1) t want dd (⟨d, g, .kill ts⟩ :: l) env = addG ts True (runG σ n t want (delsN dd ts) l (killsE env ts)) := by
  rw [runG]
  simp only [if_neg h]
  unfold addG
  split <;> rename_i e <;> rw [e] <;> simp
theorem runG_kill_stop' {d : Option Nat} {g : Option (Nat × Bool)} {ts : List Nat} (h : t ∈ ts) : runG σ (n + 1) t want dd (⟨d, g, .kill ts⟩ :: l) env = some (env, True, [], ⟨d, g, .kill ts⟩ :: l) := by
  rw [runG]
  simp only [if_pos h]
theorem runG_step' {dt : Nat} {op : HO} (hk : isKill op = false) (hd : dt ≠ t) :
    runG σ (n + 1) t want dd (⟨some dt, some (t, want), op⟩ :: l) env = bindG (hval σ (evX σ env) op) fun v p => addG [dt] p (runG σ n t want (addB v dt dd) l (putE env dt v)) := by
  have : ∀ ts, op ≠ .kill ts := fun ts e => by rw [e] at hk; cases hk
  rw [runG]
  · simp only [if_true, true_and, if_pos hd]
    unfold bindG addG
    cases hval σ (evX σ env) op with
    | none => rfl
    | some q =>
      obtain ⟨v, p⟩ := q
      simp only
      cases runG σ n t want (addB v dt dd) l (putE env dt v) with
      | none => rfl
      | some q => rfl
  · exact this
theorem runG_opp' {dt : Nat} {w : Bool} {op : HO} (hk : isKill op = false) (hw : w ≠ want) : runG σ (n + 1) t want dd (⟨some dt, some (t, w), op⟩ :: l) env = some (env, True, [], ⟨some dt, some (t, w), op⟩ :: l) := by
  have : ∀ ts, op ≠ .kill ts := fun ts e => by rw [e] at hk; cases hk
  rw [runG]
  · simp only [if_true, hw, false_and, if_false]
  · exact this
theorem runG_free' {d : Option Nat} {op : HO} (hk : isKill op = false) : runG σ (n + 1) t want dd (⟨d, none, op⟩ :: l) env = some (env, True, [], ⟨d, none, op⟩ :: l) := by
  have : ∀ ts, op ≠ .kill ts := fun ts e => by rw [e] at hk; cases hk
  rw [runG]
  · exact this
  · intros; simp_all
theorem runG_eff' {g : Option (Nat × Bool)} {op : HO} (hk : isKill op = false) : runG σ (n + 1) t want dd (⟨none, g, op⟩ :: l) env = some (env, True, [], ⟨none, g, op⟩ :: l) := by
  have : ∀ ts, op ≠ .kill ts := fun ts e => by rw [e] at hk; cases hk
  rw [runG]
  · exact this
  · intros; simp_all
theorem runG_other' {dt t' : Nat} {w : Bool} {op : HO} (hk : isKill op = false) (ht : t' ≠ t) (hd : t' ∉ dd) : runG σ (n + 1) t want dd (⟨some dt, some (t', w), op⟩ :: l) env = some (env, True, [], ⟨some dt, some (t', w), op⟩ :: l) := by
  have : ∀ ts, op ≠ .kill ts := fun ts e => by rw [e] at hk; cases hk
  rw [runG]
  · simp only [if_neg ht, if_neg hd]
  · exact this
theorem runG_nest' {dt t' : Nat} {w : Bool} {op : HO} (hk : isKill op = false) (ht : t' ≠ t) (hd : t' ∈ dd) : runG σ (n + 1) t want dd (⟨some dt, some (t', w), op⟩ :: l) env =
    nestL (look env t') (fun x => nestK σ n t want dd env t' w (⟨some dt, some (t', w), op⟩ :: l) x (runG σ n t' w [] (⟨some dt, some (t', w), op⟩ :: l) env)) (some (env, True, [], ⟨some dt, some (t', w), op⟩ :: l)) := by
  have : ∀ ts, op ≠ .kill ts := fun ts e => by rw [e] at hk; cases hk
  rw [runG]
  · simp only [if_neg ht, if_pos hd]
    unfold nestL
    cases look env t' <;> rfl
  · exact this

structure NotKill (op : HO) : Prop where
  h : isKill op = false

theorem runG_nil (hn : n ≠ 0) : runG σ n t want dd [] env = some (env, True, [], []) := by
  cases n with | zero => exact absurd rfl hn | succ n => rfl
theorem runG_kill {d : Option Nat} {g : Option (Nat × Bool)} {ts : List Nat} (hn : n ≠ 0) (h : t ∉ ts) : runG σ n t want dd (⟨d, g, .kill ts⟩ :: l) env = addG ts True (runG σ (n - 1) t want (delsN dd ts) l (killsE env ts)) := by
  cases n with | zero => exact absurd rfl hn | succ n => exact runG_kill' h
theorem runG_kill_stop {d : Option Nat} {g : Option (Nat × Bool)} {ts : List Nat} (hn : n ≠ 0) (h : t ∈ ts) : runG σ n t want dd (⟨d, g, .kill ts⟩ :: l) env = some (env, True, [], ⟨d, g, .kill ts⟩ :: l) := by
  cases n with | zero => exact absurd rfl hn | succ n => exact runG_kill_stop' h
theorem runG_step {dt : Nat} {op : HO} (hn : n ≠ 0) (hk : NotKill op) (hd : dt ≠ t) :
    runG σ n t want dd (⟨some dt, some (t, want), op⟩ :: l) env = bindG (hval σ (evX σ env) op) fun v p => addG [dt] p (runG σ (n - 1) t want (addB v dt dd) l (putE env dt v)) := by
  cases n with | zero => exact absurd rfl hn | succ n => exact runG_step' hk.h hd
theorem runG_opp {dt : Nat} {w : Bool} {op : HO} (hn : n ≠ 0) (hk : NotKill op) (hw : w ≠ want) : runG σ n t want dd (⟨some dt, some (t, w), op⟩ :: l) env = some (env, True, [], ⟨some dt, some (t, w), op⟩ :: l) := by
  cases n with | zero => exact absurd rfl hn | succ n => exact runG_opp' hk.h hw
theorem runG_free {d : Option Nat} {op : HO} (hn : n ≠ 0) (hk : NotKill op) : runG σ n t want dd (⟨d, none, op⟩ :: l) env = some (env, True, [], ⟨d, none, op⟩ :: l) := by
  cases n with | zero => exact absurd rfl hn | succ n => exact runG_free' hk.h
theorem runG_eff {g : Option (Nat × Bool)} {op : HO} (hn : n ≠ 0) (hk : NotKill op) : runG σ n t want dd (⟨none, g, op⟩ :: l) env = some (env, True, [], ⟨none, g, op⟩ :: l) := by
  cases n with | zero => exact absurd rfl hn | succ n => exact runG_eff' hk.h
theorem runG_other {dt t' : Nat} {w : Bool} {op : HO} (hn : n ≠ 0) (hk : NotKill op) (ht : t' ≠ t) (hd : t' ∉ dd) : runG σ n t want dd (⟨some dt, some (t', w), op⟩ :: l) env = some (env, True, [], ⟨some dt, some (t', w), op⟩ :: l) := by
  cases n with | zero => exact absurd rfl hn | succ n => exact runG_other' hk.h ht hd
theorem runG_nest {dt t' : Nat} {w : Bool} {op : HO} (hn : n ≠ 0) (hk : NotKill op) (ht : t' ≠ t) (hd : t' ∈ dd) : runG σ n t want dd (⟨some dt, some (t', w), op⟩ :: l) env =
    nestL (look env t') (fun x => nestK σ (n - 1) t want dd env t' w (⟨some dt, some (t', w), op⟩ :: l) x (runG σ (n - 1) t' w [] (⟨some dt, some (t', w), op⟩ :: l) env)) (some (env, True, [], ⟨some dt, some (t', w), op⟩ :: l)) := by
  cases n with | zero => exact absurd rfl hn | succ n => exact runG_nest' hk.h ht hd

theorem isKill_mv (x : X) : NotKill (.mv x) := ⟨rfl⟩
theorem isKill_pick (c a b : X) : NotKill (.pick c a b) := ⟨rfl⟩
theorem isKill_alloc (z : List D) : NotKill (.alloc z) := ⟨rfl⟩
theorem isKill_box (x : X) : NotKill (.box x) := ⟨rfl⟩
theorem isKill_build (z : List D) (ps : List (Nat × Nat × X)) : NotKill (.build z ps) := ⟨rfl⟩
theorem isKill_bslice (sz : Nat) (z : List (List D)) (ps : List (Nat × X)) : NotKill (.bslice sz z ps) := ⟨rfl⟩
theorem isKill_bvec (sz : Nat) (z : List (List D)) (ps : List (Nat × X)) : NotKill (.bvec sz z ps) := ⟨rfl⟩
theorem isKill_vslice (sz : Nat) (x : X) (hi : X) : NotKill (.vslice sz x hi) := ⟨rfl⟩
theorem isKill_vappend (sz bytes : Nat) (x y : X) : NotKill (.vappend sz bytes x y) := ⟨rfl⟩
theorem isKill_load (sz : Option Nat) (x : X) : NotKill (.load sz x) := ⟨rfl⟩
theorem isKill_store (sz : Nat) (a v : X) : NotKill (.store sz a v) := ⟨rfl⟩
theorem isKill_nilck (x : X) : NotKill (.nilck x) := ⟨rfl⟩
theorem isKill_bin (op : BinOp) (x y : X) : NotKill (.bin op x y) := ⟨rfl⟩
theorem isKill_eqBool (neg : Bool) (x y : X) : NotKill (.eqBool neg x y) := ⟨rfl⟩
theorem isKill_eqPtr (neg : Bool) (x y : X) : NotKill (.eqPtr neg x y) := ⟨rfl⟩
theorem isKill_eqIf (neg : Bool) (x y : X) : NotKill (.eqIf neg x y) := ⟨rfl⟩
theorem isKill_not (x : X) : NotKill (.not x) := ⟨rfl⟩
theorem isKill_neg (x : X) : NotKill (.neg x) := ⟨rfl⟩
theorem isKill_convI (k : IntKind) (x : X) : NotKill (.convI k x) := ⟨rfl⟩
theorem isKill_mkif (t : Nat) (x : X) : NotKill (.mkif t x) := ⟨rfl⟩
theorem isKill_mkfn (f : Nat) (caps : List X) : NotKill (.mkfn f caps) := ⟨rfl⟩
theorem isKill_slice (sz : Nat) (x : X) (lo hi : Option X) : NotKill (.slice sz x lo hi) := ⟨rfl⟩
theorem isKill_sliceS (x : X) (lo hi : Option X) : NotKill (.sliceS x lo hi) := ⟨rfl⟩
theorem isKill_cut (sz : Nat) (x : X) (lo hi mx : X) : NotKill (.cut sz x lo hi mx) := ⟨rfl⟩
theorem isKill_faddr (x : X) (off : Nat) : NotKill (.faddr x off) := ⟨rfl⟩
theorem isKill_field (sz : Option Nat) (x : X) (off : Nat) : NotKill (.field sz x off) := ⟨rfl⟩
theorem isKill_iaddr (sz : Nat) (x i : X) : NotKill (.iaddr sz x i) := ⟨rfl⟩
theorem isKill_aaddr (sz len : Nat) (x i : X) : NotKill (.aaddr sz len x i) := ⟨rfl⟩
theorem isKill_aidx (s : Option Nat) (sz len : Nat) (x i : X) : NotKill (.aidx s sz len x i) := ⟨rfl⟩
theorem isKill_index (x i : X) : NotKill (.index x i) := ⟨rfl⟩
theorem isKill_extract (x : X) (i : Nat) : NotKill (.extract x i) := ⟨rfl⟩
theorem isKill_len (x : X) : NotKill (.len x) := ⟨rfl⟩
theorem isKill_lenS (x : X) : NotKill (.lenS x) := ⟨rfl⟩
theorem isKill_append (e sz bytes : Nat) (x y : X) : NotKill (.append e sz bytes x y) := ⟨rfl⟩
theorem isKill_allocT (t : Nat) (z : List D) : NotKill (.allocT t z) := ⟨rfl⟩
theorem isKill_convU (x : X) : NotKill (.convU x) := ⟨rfl⟩
theorem isKill_convT (u n : Nat) (x : X) : NotKill (.convT u n x) := ⟨rfl⟩
theorem isKill_usd (x : X) : NotKill (.usd x) := ⟨rfl⟩
theorem isKill_ustr (e : Nat) (x n : X) : NotKill (.ustr e x n) := ⟨rfl⟩
theorem isKill_assertT (t : Nat) (x : X) : NotKill (.assertT t x) := ⟨rfl⟩
theorem isKill_sliceA (n : Nat) (x : X) : NotKill (.sliceA n x) := ⟨rfl⟩
theorem isKill_bstr (x : X) : NotKill (.bstr x) := ⟨rfl⟩
theorem isKill_mm (b : Bool) (x y : X) : NotKill (.mm b x y) := ⟨rfl⟩
theorem isKill_eqSl (b : Bool) (x : X) : NotKill (.eqSl b x) := ⟨rfl⟩
theorem isKill_eqAgg (b : Bool) (ks : List Nat) (x y : X) : NotKill (.eqAgg b ks x y) := ⟨rfl⟩
theorem isKill_call (f : X) (args : List X) : NotKill (.call f args) := ⟨rfl⟩

theorem bindG_some {v : D} {p : Prop} {k : D → Prop → GR} : bindG (some (v, p)) k = k v p := rfl
theorem addG_some {tt tt2 : List Nat} {p q : Prop} {e : Env} {r : List HI} : addG tt p (some (e, q, tt2, r)) = some (e, p ∧ q, tt ++ tt2, r) := rfl
theorem nestL_bool {x : Bool} {k : Bool → GR} {stop : GR} : nestL (.bool x) k stop = k x := rfl
theorem nestK_pick {t' : Nat} {want' x : Bool} {stop : List HI} {e1 : Env} {p : Prop} {tt : List Nat} {d2 : Nat} {a b : X} {l2 : List HI} (hd : d2 ≠ t) (ht : t ∉ tt) :
    nestK σ n t want dd env t' want' stop x (some (e1, p, tt, ⟨some d2, some (t, want), .pick (.tmp t') a b⟩ :: l2)) =
      addG (d2 :: tt) (x = want' → p) (runG σ n t want (d2 :: delsN dd tt) l2 (putE (killsE env tt) d2 (pickV σ env e1 tt want' x a b))) := by
  unfold nestK
  simp only [true_and, ne_eq, hd, not_false_eq_true, ht, and_self, if_true]

def hgrpK (σ : St) (env : Env) (t : Nat) (want x : Bool) : GR → Option (Nat × D × Prop × Env × List HI)
  | some (e1, p, tt, r) => match r with
    | ⟨some d, none, .pick (.tmp t') a b⟩ :: l2 =>
      if t' = t then some (d, pickV σ env e1 tt want x a b, p, killsE env tt, l2)
      else none
    | _ => none
  | none => none
theorem bindG_none {k : D → Prop → GR} : bindG none k = none := rfl
theorem addG_none {ts : List Nat} {p : Prop} : addG ts p none = none := rfl
theorem hgrpK_none {x : Bool} : hgrpK σ env t want x none = none := rfl
theorem nestK_none {t' : Nat} {want' x : Bool} {stop : List HI} : nestK σ n t want dd env t' want' stop x none = none := rfl
theorem hgrpK_guarded {want x : Bool} {e : Env} {p : Prop} {tt : List Nat} {d : Nat} {g : Nat × Bool} {op : HO} {l2 : List HI} : hgrpK σ env t want x (some (e, p, tt, ⟨some d, some g, op⟩ :: l2)) = none := rfl
theorem hgrp_eq {x : Bool} : hgrp σ env t want x l = hgrpK σ env t want x (runG σ 60 t want [] l env) := rfl
theorem hgrpK_pick {x : Bool} {e1 : Env} {p : Prop} {tt : List Nat} {d : Nat} {a b : X} {l2 : List HI} : hgrpK σ env t want x (some (e1, p, tt, ⟨some d, none, .pick (.tmp t) a b⟩ :: l2)) = some (d, pickV σ env e1 tt want x a b, p, killsE env tt, l2) := by
  simp only [hgrpK, if_true]
end

@[congr] theorem bindG_congr {o o' : Option (D × Prop)} {k : D → Prop → GR} (h : o = o') : bindG o k = bindG o' k := by rw [h]
@[congr] theorem nestL_congr {o o' : D} {k : Bool → GR} {s : GR} (h : o = o') : nestL o k s = nestL o' k s := by rw [h]
@[congr] theorem nestK_congr {σ : St} {n t : Nat} {want : Bool} {dd : List Nat} {env : Env} {t' : Nat} {want' : Bool} {stop : List HI} {x : Bool} {r r' : GR} (h : r = r') : nestK σ n t want dd env t' want' stop x r = nestK σ n t want dd env t' want' stop x r' := by rw [h]
@[congr] theorem addG_congr {tt : List Nat} {p p' : Prop} {r r' : GR} (h : p = p') (h2 : r = r') : addG tt p r = addG tt p' r' := by rw [h, h2]
@[congr] theorem hgrpK_congr {σ : St} {env : Env} {t : Nat} {w x : Bool} {r r' : GR} (h : r = r') : hgrpK σ env t w x r = hgrpK σ env t w x r' := by rw [h]

structure NotCall (op : HO) : Prop where
  h : (∀ f args, op ≠ .call f args) ∧ ∀ neg x, op ≠ .eqSl neg x

theorem notCall_mv (x : X) : NotCall (.mv x) := ⟨(fun _ _ h => by cases h), fun _ _ h => by cases h⟩
theorem notCall_pick (c a b : X) : NotCall (.pick c a b) := ⟨(fun _ _ h => by cases h), fun _ _ h => by cases h⟩
theorem notCall_alloc (z : List D) : NotCall (.alloc z) := ⟨(fun _ _ h => by cases h), fun _ _ h => by cases h⟩
theorem notCall_box (x : X) : NotCall (.box x) := ⟨(fun _ _ h => by cases h), fun _ _ h => by cases h⟩
theorem notCall_build (z : List D) (ps : List (Nat × Nat × X)) : NotCall (.build z ps) := ⟨(fun _ _ h => by cases h), fun _ _ h => by cases h⟩
theorem notCall_bslice (sz : Nat) (z : List (List D)) (ps : List (Nat × X)) : NotCall (.bslice sz z ps) := ⟨(fun _ _ h => by cases h), fun _ _ h => by cases h⟩
theorem notCall_bvec (sz : Nat) (z : List (List D)) (ps : List (Nat × X)) : NotCall (.bvec sz z ps) := ⟨(fun _ _ h => by cases h), fun _ _ h => by cases h⟩
theorem notCall_vslice (sz : Nat) (x : X) (hi : X) : NotCall (.vslice sz x hi) := ⟨(fun _ _ h => by cases h), fun _ _ h => by cases h⟩
theorem notCall_vappend (sz bytes : Nat) (x y : X) : NotCall (.vappend sz bytes x y) := ⟨(fun _ _ h => by cases h), fun _ _ h => by cases h⟩
theorem notCall_load (sz : Option Nat) (x : X) : NotCall (.load sz x) := ⟨(fun _ _ h => by cases h), fun _ _ h => by cases h⟩
theorem notCall_store (sz : Nat) (a v : X) : NotCall (.store sz a v) := ⟨(fun _ _ h => by cases h), fun _ _ h => by cases h⟩
theorem notCall_nilck (x : X) : NotCall (.nilck x) := ⟨(fun _ _ h => by cases h), fun _ _ h => by cases h⟩
theorem notCall_bin (op : BinOp) (x y : X) : NotCall (.bin op x y) := ⟨(fun _ _ h => by cases h), fun _ _ h => by cases h⟩
theorem notCall_eqBool (neg : Bool) (x y : X) : NotCall (.eqBool neg x y) := ⟨(fun _ _ h => by cases h), fun _ _ h => by cases h⟩
theorem notCall_eqPtr (neg : Bool) (x y : X) : NotCall (.eqPtr neg x y) := ⟨(fun _ _ h => by cases h), fun _ _ h => by cases h⟩
theorem notCall_eqIf (neg : Bool) (x y : X) : NotCall (.eqIf neg x y) := ⟨(fun _ _ h => by cases h), fun _ _ h => by cases h⟩
theorem notCall_not (x : X) : NotCall (.not x) := ⟨(fun _ _ h => by cases h), fun _ _ h => by cases h⟩
theorem notCall_neg (x : X) : NotCall (.neg x) := ⟨(fun _ _ h => by cases h), fun _ _ h => by cases h⟩
theorem notCall_convI (k : IntKind) (x : X) : NotCall (.convI k x) := ⟨(fun _ _ h => by cases h), fun _ _ h => by cases h⟩
theorem notCall_mkif (t : Nat) (x : X) : NotCall (.mkif t x) := ⟨(fun _ _ h => by cases h), fun _ _ h => by cases h⟩
theorem notCall_mkfn (f : Nat) (caps : List X) : NotCall (.mkfn f caps) := ⟨(fun _ _ h => by cases h), fun _ _ h => by cases h⟩
theorem notCall_slice (sz : Nat) (x : X) (lo hi : Option X) : NotCall (.slice sz x lo hi) := ⟨(fun _ _ h => by cases h), fun _ _ h => by cases h⟩
theorem notCall_sliceS (x : X) (lo hi : Option X) : NotCall (.sliceS x lo hi) := ⟨(fun _ _ h => by cases h), fun _ _ h => by cases h⟩
theorem notCall_cut (sz : Nat) (x : X) (lo hi mx : X) : NotCall (.cut sz x lo hi mx) := ⟨(fun _ _ h => by cases h), fun _ _ h => by cases h⟩
theorem notCall_faddr (x : X) (off : Nat) : NotCall (.faddr x off) := ⟨(fun _ _ h => by cases h), fun _ _ h => by cases h⟩
theorem notCall_field (sz : Option Nat) (x : X) (off : Nat) : NotCall (.field sz x off) := ⟨(fun _ _ h => by cases h), fun _ _ h => by cases h⟩
theorem notCall_iaddr (sz : Nat) (x i : X) : NotCall (.iaddr sz x i) := ⟨(fun _ _ h => by cases h), fun _ _ h => by cases h⟩
theorem notCall_aaddr (sz len : Nat) (x i : X) : NotCall (.aaddr sz len x i) := ⟨(fun _ _ h => by cases h), fun _ _ h => by cases h⟩
theorem notCall_aidx (s : Option Nat) (sz len : Nat) (x i : X) : NotCall (.aidx s sz len x i) := ⟨(fun _ _ h => by cases h), fun _ _ h => by cases h⟩
theorem notCall_index (x i : X) : NotCall (.index x i) := ⟨(fun _ _ h => by cases h), fun _ _ h => by cases h⟩
theorem notCall_extract (x : X) (i : Nat) : NotCall (.extract x i) := ⟨(fun _ _ h => by cases h), fun _ _ h => by cases h⟩
theorem notCall_len (x : X) : NotCall (.len x) := ⟨(fun _ _ h => by cases h), fun _ _ h => by cases h⟩
theorem notCall_lenS (x : X) : NotCall (.lenS x) := ⟨(fun _ _ h => by cases h), fun _ _ h => by cases h⟩
theorem notCall_append (e sz bytes : Nat) (x y : X) : NotCall (.append e sz bytes x y) := ⟨(fun _ _ h => by cases h), fun _ _ h => by cases h⟩
theorem notCall_allocT (t : Nat) (z : List D) : NotCall (.allocT t z) := ⟨(fun _ _ h => by cases h), fun _ _ h => by cases h⟩
theorem notCall_convU (x : X) : NotCall (.convU x) := ⟨(fun _ _ h => by cases h), fun _ _ h => by cases h⟩
theorem notCall_convT (u n : Nat) (x : X) : NotCall (.convT u n x) := ⟨(fun _ _ h => by cases h), fun _ _ h => by cases h⟩
theorem notCall_usd (x : X) : NotCall (.usd x) := ⟨(fun _ _ h => by cases h), fun _ _ h => by cases h⟩
theorem notCall_ustr (e : Nat) (x n : X) : NotCall (.ustr e x n) := ⟨(fun _ _ h => by cases h), fun _ _ h => by cases h⟩
theorem notCall_assertT (t : Nat) (x : X) : NotCall (.assertT t x) := ⟨(fun _ _ h => by cases h), fun _ _ h => by cases h⟩
theorem notCall_sliceA (n : Nat) (x : X) : NotCall (.sliceA n x) := ⟨(fun _ _ h => by cases h), fun _ _ h => by cases h⟩
theorem notCall_eqAgg (b : Bool) (ks : List Nat) (x y : X) : NotCall (.eqAgg b ks x y) := ⟨(fun _ _ h => by cases h), fun _ _ h => by cases h⟩
theorem notCall_bstr (x : X) : NotCall (.bstr x) := ⟨(fun _ _ h => by cases h), fun _ _ h => by cases h⟩
theorem notCall_mm (b : Bool) (x y : X) : NotCall (.mm b x y) := ⟨(fun _ _ h => by cases h), fun _ _ h => by cases h⟩

def condH (c : D) (P Q : Prop) : Prop := match c with
  | .bool b => (b = true → P) ∧ (b = false → Q)
  | _ => False
def exitH (M : Md) (base : HPost) (n id : Nat) (k : List It) (env : Env) (σ : St) (o : Option (List It)) : Prop := match o with
  | some k' => hgo M base n k' env σ
  | none => HX M base (.code (.exit id) :: k) env σ
def bindH (o : Option (D × St × Prop)) (K : D → St → Prop → Prop) : Prop := match o with
  | some (v, σ', p) => K v σ' p
  | none => False
def guardH (c : D) (K : Bool → Prop) (dead : Prop) : Prop := match c with
  | .bool x => K x
  | .dead => dead
  | _ => False
def grpH (o : Option (Nat × D × Prop × Env × List HI)) (K : Nat → D → Prop → Env → List HI → Prop) (other : Prop) : Prop := match o with
  | some (d, v, p, e, l) => K d v p e l
  | none => other

theorem exitH_some {M : Md} {base : HPost} {n id : Nat} {k k' : List It} {env : Env} {σ : St} : exitH M base n id k env σ (some k') = hgo M base n k' env σ := rfl
theorem exitH_none {M : Md} {base : HPost} {n id : Nat} {k : List It} {env : Env} {σ : St} : exitH M base n id k env σ none = HX M base (.code (.exit id) :: k) env σ := rfl
theorem bindH_some {v : D} {σ' : St} {p : Prop} {K : D → St → Prop → Prop} : bindH (some (v, σ', p)) K = K v σ' p := rfl
theorem guardH_bool {x : Bool} {K : Bool → Prop} {dead : Prop} : guardH (.bool x) K dead = K x := rfl
theorem guardH_dead {K : Bool → Prop} {dead : Prop} : guardH .dead K dead = dead := rfl
theorem grpH_some {d : Nat} {v : D} {p : Prop} {e : Env} {l : List HI} {K : Nat → D → Prop → Env → List HI → Prop} {other : Prop} : grpH (some (d, v, p, e, l)) K other = K d v p e l := rfl
theorem grpH_none {K : Nat → D → Prop → Env → List HI → Prop} {other : Prop} : grpH none K other = other := rfl

theorem beq_tf : (true == false) = false := id rfl
theorem beq_ft : (false == true) = false := id rfl
theorem beq_tt : (true == true) = true := id rfl
theorem beq_ff : (false == false) = true := id rfl
def gdE (env : Env) : Option (Nat × Bool) → D
  | none => .nilp
  | some (t, _) => look env t
def gdW : Option (Nat × Bool) → Bool
  | none => true
  | some (_, w) => w
def gdK (d : D) (w : Bool) (P Q : Prop) : Prop := condJ (gdV d w) P Q
theorem gdE_none {env : Env} : gdE env none = .nilp := id rfl
theorem gdE_some {env : Env} {t : Nat} {w : Bool} : gdE env (some (t, w)) = look env t := id rfl
theorem gdW_none : gdW none = true := id rfl
theorem gdW_some {t : Nat} {w : Bool} : gdW (some (t, w)) = w := id rfl
theorem gdK_none {w : Bool} {P Q : Prop} : gdK .nilp w P Q = Q := by cases w <;> simp [gdK, gdV, condJ]
theorem gdK_t {x : Bool} {P Q : Prop} : gdK (.bool x) true P Q = condJ x Q P := by cases x <;> simp [gdK, gdV, condJ]
theorem gdK_f {x : Bool} {P Q : Prop} : gdK (.bool x) false P Q = condJ x P Q := id rfl
theorem gdK_dead {w : Bool} {P Q : Prop} : gdK .dead w P Q = P := by cases w <;> simp [gdK, gdV, condJ]
@[congr] theorem gdK_congr {d d' : D} {w w' : Bool} {P Q : Prop} (h : d = d') (h2 : w = w') : gdK d w P Q = gdK d' w' P Q := by rw [h, h2]
theorem gdK_B {env : Env} {g : Option (Nat × Bool)} {P Q : Prop} : condJ (gdB env g) P Q = gdK (gdE env g) (gdW g) P Q := by
  cases g with
  | none => simp [gdB, gdE, gdW, gdK, gdV, condJ]
  | some tw => rfl
theorem condH_step {b : Bool} {P Q : Prop} : condH (.bool b) P Q = condJ b P Q := id rfl
theorem condJ_true {P Q : Prop} : condJ true P Q = P := by simp [condJ]
theorem condJ_false {P Q : Prop} : condJ false P Q = Q := by simp [condJ]
theorem condJ_bool {b : Bool} {P Q : Prop} : condJ b P Q = ((b = true → P) ∧ (b = false → Q)) := id rfl
@[congr] theorem condJ_congr {b b' : Bool} {P Q : Prop} (h : b = b') : condJ b P Q = condJ b' P Q := by rw [h]
@[congr] theorem condH_congr {c c' : D} {P Q : Prop} (h : c = c') : condH c P Q = condH c' P Q := by rw [h]
@[congr] theorem exitH_congr {M : Md} {base : HPost} {n id : Nat} {k : List It} {env : Env} {σ : St} {o o' : Option (List It)} (h : o = o') : exitH M base n id k env σ o = exitH M base n id k env σ o' := by rw [h]
@[congr] theorem bindH_congr {o o' : Option (D × St × Prop)} {K : D → St → Prop → Prop} (h : o = o') : bindH o K = bindH o' K := by rw [h]
@[congr] theorem guardH_congr {c c' : D} {K : Bool → Prop} {dead : Prop} (h : c = c') : guardH c K dead = guardH c' K dead := by rw [h]
@[congr] theorem grpH_congr {o o' : Option (Nat × D × Prop × Env × List HI)} {K : Nat → D → Prop → Env → List HI → Prop} {other : Prop} (h : o = o') : grpH o K other = grpH o' K other := by rw [h]

section
variable {M : Md} {base : HPost} {n : Nat} {k : List It} {env : Env} {σ : St}
theorem hgo_zero : hgo M base 0 k env σ = HX M base k env σ := rfl
theorem hgo_nil (hn : n ≠ 0) : hgo M base n [] env σ = base .normal env σ := by
  cases n with | zero => exact absurd rfl hn | succ n => rfl
theorem hgo_inBlock (hn : n ≠ 0) {id : Nat} : hgo M base n (.inBlock id :: k) env σ = hgo M base (n - 1) k env σ := by
  cases n with | zero => exact absurd rfl hn | succ n => rfl
theorem hgo_stop (hn : n ≠ 0) {I : Env → St → Prop} : hgo M base n (.stop I :: k) env σ = I env σ := by
  cases n with | zero => exact absurd rfl hn | succ n => rfl
theorem hgo_skip (hn : n ≠ 0) : hgo M base n (.code .skip :: k) env σ = hgo M base (n - 1) k env σ := by
  cases n with | zero => exact absurd rfl hn | succ n => rfl
theorem hgo_ret (hn : n ≠ 0) : hgo M base n (.code .ret :: k) env σ = base .ret env σ := by
  cases n with | zero => exact absurd rfl hn | succ n => rfl
theorem hgo_seq (hn : n ≠ 0) {x y : HC} : hgo M base n (.code (.seq x y) :: k) env σ = hgo M base (n - 1) (.code x :: .code y :: k) env σ := by
  cases n with | zero => exact absurd rfl hn | succ n => rfl
theorem hgo_block (hn : n ≠ 0) {id : Nat} {x : HC} : hgo M base n (.code (.block id x) :: k) env σ = hgo M base (n - 1) (.code x :: .inBlock id :: k) env σ := by
  cases n with | zero => exact absurd rfl hn | succ n => rfl
theorem hgo_ops (hn : n ≠ 0) {l : List HI} : hgo M base n (.code (.ops l) :: k) env σ = hgo M base (n - 1) (.ops l :: k) env σ := by
  cases n with | zero => exact absurd rfl hn | succ n => rfl
theorem hgo_cond (hn : n ≠ 0) {x : X} {p q : HC} : hgo M base n (.code (.cond x p q) :: k) env σ = condH (evX σ env x) (hgo M base (n - 1) (.code p :: k) env σ) (hgo M base (n - 1) (.code q :: k) env σ) := by
  cases n with | zero => exact absurd rfl hn | succ n => rfl
theorem hgo_exit (hn : n ≠ 0) {id : Nat} : hgo M base n (.code (.exit id) :: k) env σ = exitH M base (n - 1) id k env σ (hexit id k) := by
  cases n with | zero => exact absurd rfl hn | succ n => rfl
theorem hgo_loop (hn : n ≠ 0) {c : HC} : hgo M base n (.code (.loop c) :: k) env σ = HX M base (.code (.loop c) :: k) env σ := by
  cases n with | zero => exact absurd rfl hn | succ n => rfl
theorem hgo_draw (hn : n ≠ 0) {l : List DI} : hgo M base n (.code (.draw l) :: k) env σ = HX M base (.code (.draw l) :: k) env σ := by
  cases n with | zero => exact absurd rfl hn | succ n => rfl
theorem hgo_range (hn : n ≠ 0) {f : X} {ps : List Nat} {a b : HC} : hgo M base n (.code (.range f ps a b) :: k) env σ = HX M base (.code (.range f ps a b) :: k) env σ := by
  cases n with | zero => exact absurd rfl hn | succ n => rfl
theorem hgo_ops_nil (hn : n ≠ 0) : hgo M base n (.ops [] :: k) env σ = hgo M base (n - 1) k env σ := by
  cases n with | zero => exact absurd rfl hn | succ n => rfl
theorem hgo_kill (hn : n ≠ 0) {d : Option Nat} {g : Option (Nat × Bool)} {ts : List Nat} {l : List HI} : hgo M base n (.ops (⟨d, g, .kill ts⟩ :: l) :: k) env σ = hgo M base (n - 1) (.ops l :: k) (killsE env ts) σ := by
  cases n with | zero => exact absurd rfl hn | succ n => rfl
theorem hgo_call (hn : n ≠ 0) {d : Option Nat} {g : Option (Nat × Bool)} {f : X} {args : List X} {l : List HI} : hgo M base n (.ops (⟨d, g, .call f args⟩ :: l) :: k) env σ = gdK (gdE env g) (gdW g) (hgo M base (n - 1) (.ops l :: k) (putO env d .dead) σ) (HX M base (.ops (⟨d, g, .call f args⟩ :: l) :: k) env σ) := by
  rw [← gdK_B]
  cases n with | zero => exact absurd rfl hn | succ n => rfl
theorem hgo_eqSl (hn : n ≠ 0) {d : Option Nat} {g : Option (Nat × Bool)} {neg : Bool} {x : X} {l : List HI} : hgo M base n (.ops (⟨d, g, .eqSl neg x⟩ :: l) :: k) env σ = gdK (gdE env g) (gdW g) (hgo M base (n - 1) (.ops l :: k) (putO env d .dead) σ) (HX M base (.ops (⟨d, g, .eqSl neg x⟩ :: l) :: k) env σ) := by
  rw [← gdK_B]
  cases n with | zero => exact absurd rfl hn | succ n => rfl
theorem hgo_refuse (hn : n ≠ 0) : hgo M base n (.code .refuse :: k) env σ = HX M base (.code .refuse :: k) env σ := by
  cases n with | zero => exact absurd rfl hn | succ n => rfl
theorem hgo_op (hn : n ≠ 0) {d : Option Nat} {op : HO} {l : List HI} (hk : NotKill op) (hc : NotCall op) : hgo M base n (.ops (⟨d, none, op⟩ :: l) :: k) env σ =
    bindH (hstep σ (evX σ env) op) fun v σ' p => p ∧ hgo M base (n - 1) (.ops l :: k) (putO env d v) σ' := by
  cases n with
  | zero => exact absurd rfl hn
  | succ n =>
    cases op <;> first
      | rfl
      | exact absurd rfl (hc.h.1 _ _)
      | exact absurd rfl (hc.h.2 _ _)
      | exact absurd hk.h (by simp [isKill])
theorem hgo_gop (hn : n ≠ 0) {d : Option Nat} {t : Nat} {want : Bool} {op : HO} {l : List HI} (hk : NotKill op) (hc : NotCall op) : hgo M base n (.ops (⟨d, some (t, want), op⟩ :: l) :: k) env σ =
    guardH (look env t) (fun x => grpH (hgrp σ env t want x (⟨d, some (t, want), op⟩ :: l)) (fun d' v p e l2 => (x = want → p) ∧ hgo M base (n - 1) (.ops l2 :: k) (putE e d' v) σ) (hone σ env (some (t, want)) op fun v σ' => hgo M base (n - 1) (.ops l :: k) (putO env d v) σ'))
      (hgo M base (n - 1) (.ops l :: k) (putO env d .dead) σ) := by
  cases n with
  | zero => exact absurd rfl hn
  | succ n =>
    cases op <;> first
      | rfl
      | exact absurd rfl (hc.h.1 _ _)
      | exact absurd rfl (hc.h.2 _ _)
      | exact absurd hk.h (by simp [isKill])
end

@[congr] theorem hgo_congr {M : Md} {base : HPost} {n n' : Nat} {k : List It} {env env' : Env} {σ σ' : St} (h0 : n = n') (h1 : env = env') (h2 : σ = σ') : hgo M base n k env σ = hgo M base n' k env' σ' := by rw [h0, h1, h2]
@[congr] theorem hgrp_congr {σ σ' : St} {env env' : Env} {t : Nat} {w x x' : Bool} {l : List HI} (h1 : σ = σ') (h2 : env = env') (h3 : x = x') : hgrp σ env t w x l = hgrp σ' env' t w x' l := by rw [h1, h2, h3]
@[congr] theorem runG_congr {σ σ' : St} {env env' : Env} {n n' t : Nat} {w : Bool} {dd dd' : List Nat} {l : List HI} (h0 : n = n') (h3 : dd = dd') (h1 : σ = σ') (h2 : env = env') : runG σ n t w dd l env = runG σ' n' t w dd' l env' := by rw [h0, h3, h1, h2]
@[congr] theorem HX_congr {M : Md} {base : HPost} {k : List It} {env env' : Env} {σ σ' : St} (h1 : env = env') (h2 : σ = σ') : HX M base k env σ = HX M base k env' σ' := by rw [h1, h2]
@[congr] theorem hone_congr {σ σ' : St} {env env' : Env} {g : Option (Nat × Bool)} {op : HO} {K : D → St → Prop} (h1 : σ = σ') (h2 : env = env') : hone σ env g op K = hone σ' env' g op K := by rw [h1, h2]
@[congr] theorem hstep_congr {σ σ' : St} {ev : X → D} {op : HO} (h1 : σ = σ') : hstep σ ev op = hstep σ' ev op := by rw [h1]

theorem ite_bool (c : Prop) [Decidable c] (a b : Bool) : (if c then D.bool a else D.bool b) = D.bool (if c then a else b) := by split <;> rfl
theorem ite_int (c : Prop) [Decidable c] (k : IntKind) (a b : Int) : (if c then D.int k a else D.int k b) = D.int k (if c then a else b) := by split <;> rfl
theorem ite_str (c : Prop) [Decidable c] (a b : ByteArray) : (if c then D.str a else D.str b) = D.str (if c then a else b) := by split <;> rfl

structure Sub (σ0 σ : St) : Prop where
  next : σ0.next ≤ σ.next
  obj : ∀ id o, σ0.obj id = some o → σ.obj id = some o
  glob : σ0.glob = σ.glob

theorem Sub.refl (σ : St) : Sub σ σ := ⟨Nat.le_refl _, fun _ _ h => h, rfl⟩
theorem Sub.new {σ0 σ : St} (hw : σ0.wf) (h : Sub σ0 σ) (o : Ob) : Sub σ0 (σ.new o) :=
  ⟨Nat.le_succ_of_le h.next, fun id k hk => by
    have h1 := (hw.obj id k hk).1
    have h2 := h.next
    rw [St.new_ne σ o (by omega)]
    exact h.obj id k hk, h.glob⟩
theorem Sub.put {σ0 σ : St} (hw : σ0.wf) (h : Sub σ0 σ) {id : Nat} (hi : σ0.next ≤ id) (o : Ob) : Sub σ0 (σ.put id o) :=
  ⟨h.next, fun j k hk => by
    have h1 := (hw.obj j k hk).1
    rw [St.put_ne σ o (by omega)]
    exact h.obj j k hk, h.glob⟩
theorem Sub.del {σ0 σ : St} (hw : σ0.wf) (h : Sub σ0 σ) {id : Nat} (hi : σ0.next ≤ id) : Sub σ0 (σ.del id) :=
  ⟨h.next, fun j k hk => by
    have h1 := (hw.obj j k hk).1
    simp only [St.del]
    rw [if_neg (by omega)]
    exact h.obj j k hk, h.glob⟩
theorem Sub.trans {a b c : St} (h : Sub a b) (h' : Sub b c) : Sub a c := ⟨Nat.le_trans h.next h'.next, fun i o h1 => h'.obj i o (h.obj i o h1), h.glob.trans h'.glob⟩

theorem fpost_pure {n0 : Nat} {res : List HR} {Q : D → St → Prop} {e : Exit} {env : Env} {σ σ0 : St} {ds : List D} {p : Prop} (he : e = .normal ∨ e = .ret) (hn : n0 ≤ σ0.next) (hw : σ0.wf) (hs : Sub σ0 σ)
    (hr : resD σ env res = some (ds, p)) (hp : p) (hd : (tupD ds).lt σ0.next) (hq : Q (tupD ds) σ0) : FPost n0 res Q e env σ :=
  ⟨he, fun _ _ _ => ⟨ds, p, fun _ => none, false, σ0, hr, hp, (fun _ _ h => by cases h), by rw [frzD_id]; exact hd, ⟨hn, hs.next, hw, hs.obj, hs.glob, fun _ h => by cases h⟩, _, Wk.refl _, by rw [frzD_id]; exact hq⟩⟩

theorem fpost_wk {n0 : Nat} {res : List HR} {Q : D → St → Prop} {e : Exit} {env : Env} {σ σ0 : St} {ds : List D} {d : D} {p : Prop} (hwk : Wk (tupD ds) d) (he : e = .normal ∨ e = .ret) (hn : n0 ≤ σ0.next) (hw : σ0.wf) (hs : Sub σ0 σ)
    (hr : resD σ env res = some (ds, p)) (hp : p) (hd : (tupD ds).lt σ0.next) (hq : Q d σ0) : FPost n0 res Q e env σ :=
  ⟨he, fun _ _ _ => ⟨ds, p, fun _ => none, false, σ0, hr, hp, (fun _ _ h => by cases h), by rw [frzD_id]; exact hd, ⟨hn, hs.next, hw, hs.obj, hs.glob, fun _ h => by cases h⟩, d, by rw [frzD_id]; exact hwk, hq⟩⟩

theorem fpost_strip {n0 : Nat} {res : List HR} {Q : D → St → Prop} {e : Exit} {env : Env} {σ σ0 : St} {ds : List D} {d : D} {p : Prop} (hwk : Wk (frzD (fun _ => none) true (tupD ds)) d) (he : e = .normal ∨ e = .ret) (hn : n0 ≤ σ0.next) (hw : σ0.wf) (hs : Sub σ0 σ)
    (hr : resD σ env res = some (ds, p)) (hp : p) (hd : (frzD (fun _ => none) true (tupD ds)).lt σ0.next) (hq : Q d σ0) : FPost n0 res Q e env σ :=
  ⟨he, fun _ _ _ => ⟨ds, p, fun _ => none, true, σ0, hr, hp, (fun _ _ h => by cases h), hd, ⟨hn, hs.next, hw, hs.obj, hs.glob, fun _ h => by cases h⟩, d, hwk, hq⟩⟩

theorem fpost_keep {n0 : Nat} {res : List HR} {Q : D → St → Prop} {e : Exit} {env : Env} {σ : St} {ds : List D} {p : Prop} (he : e = .normal ∨ e = .ret)
    (hr : resD σ env res = some (ds, p)) (hp : p) (hd : (∀ t, (look env t).lt σ.next) → (tupD ds).lt σ.next) (hq : σ.wf → Q (tupD ds) σ) : FPost n0 res Q e env σ :=
  ⟨he, fun hw hl hn => ⟨ds, p, fun _ => none, false, σ, hr, hp, (fun _ _ h => by cases h), by rw [frzD_id]; exact hd hl, ⟨hn, Nat.le_refl _, hw, fun _ _ h => h, rfl, fun _ h => by cases h⟩, _, Wk.refl _, by rw [frzD_id]; exact hq hw⟩⟩

def lookF : List (Nat × List D) → Nat → Option (List D)
  | [], _ => none
  | (k, cs) :: r, id => if id = k then some cs else lookF r id

theorem lookF_mem : ∀ {F : List (Nat × List D)} {id : Nat} {cs : List D}, lookF F id = some cs → (id, cs) ∈ F
  | [], _, _, h => by cases h
  | (k, c) :: r, id, cs, h => by
    simp only [lookF] at h
    split at h
    · rename_i e
      injection h with h
      rw [e, h]
      exact List.mem_cons_self
    · exact List.mem_cons_of_mem _ (lookF_mem h)

theorem fpost_frz {n0 : Nat} {res : List HR} {Q : D → St → Prop} {e : Exit} {env : Env} {σ σ0 : St} {ds : List D} {d : D} {p : Prop} (F : List (Nat × List D)) (st : Bool) (he : e = .normal ∨ e = .ret) (hn : n0 ≤ σ0.next) (hw : σ0.wf) (hs : Sub σ0 σ)
    (hr : resD σ env res = some (ds, p)) (hp : p) (hF : ∀ q ∈ F, σ0.next ≤ q.1 ∧ σ.obj q.1 = some (.box q.2)) (hfd : frzD (lookF F) st (tupD ds) = d) (hd : d.lt σ0.next) (hq : Q d σ0) : FPost n0 res Q e env σ :=
  ⟨he, fun _ _ _ => ⟨ds, p, lookF F, st, σ0, hr, hp, fun id cs h => hF _ (lookF_mem h), by rw [hfd]; exact hd, ⟨hn, hs.next, hw, hs.obj, hs.glob, fun _ h => by cases h⟩, _, Wk.refl _, by rw [hfd]; exact hq⟩⟩

theorem cellsD_bool (b : Bool) : cellsD (.bool b) = some [.bool b] := rfl
theorem cellsD_int (k : IntKind) (n : Int) : cellsD (.int k n) = some [.int k n] := rfl
theorem cellsD_str (s : ByteArray) : cellsD (.str s) = some [.str s] := rfl
theorem cellsD_nilp  : cellsD (.nilp ) = some [.nilp ] := rfl
theorem cellsD_ptr (i o : Nat) : cellsD (.ptr i o) = some [.ptr i o] := rfl
theorem cellsD_eptr (cs : List D) (o : Nat) : cellsD (.eptr cs o) = some [.eptr cs o] := rfl
theorem cellsD_slice (o : Own) (sz : Nat) (xs : List (List D)) : cellsD (.slice o sz xs) = some [.slice o sz xs] := rfl
theorem cellsD_func (f : Nat) (cs : List D) : cellsD (.func f cs) = some [.func f cs] := rfl
theorem cellsD_yld (i : Nat) : cellsD (.yld i) = some [.yld i] := rfl
theorem cellsD_nilf  : cellsD (.nilf ) = some [.nilf ] := rfl
theorem cellsD_iface (t : Nat) (d : D) : cellsD (.iface t d) = some [.iface t d] := rfl
theorem cellsD_nili  : cellsD (.nili ) = some [.nili ] := rfl
theorem cellsD_vec (i k : Nat) : cellsD (.vec i k) = some [.vec i k] := rfl
theorem cellsD_sptr (t : Nat) (xs : List (List D)) : cellsD (.sptr t xs) = some [.sptr t xs] := rfl
theorem cellsD_vptr (i k sz j o : Nat) : cellsD (.vptr i k sz j o) = some [.vptr i k sz j o] := rfl
theorem cellsD_agg (cs : List D) : cellsD (.agg cs) = some cs := rfl

theorem St.obj_new (σ : St) (o : Ob) (j : Nat) : (σ.new o).obj j = if j = σ.next then some o else σ.obj j := rfl
theorem St.obj_put (σ : St) (id : Nat) (o : Ob) (j : Nat) : (σ.put id o).obj j = if j = id then some o else σ.obj j := rfl
theorem St.obj_del (σ : St) (id : Nat) (j : Nat) : (σ.del id).obj j = if j = id then none else σ.obj j := rfl
theorem St.next_new (σ : St) (o : Ob) : (σ.new o).next = σ.next + 1 := rfl
theorem St.next_put (σ : St) (id : Nat) (o : Ob) : (σ.put id o).next = σ.next := rfl

end Go.Hl
