/-
  Straight-line code, run at once.
-/
import Derived.Test.YtijcddlahidhhaaDoorHlI
import Derived.OrdersIn
set_option linter.unusedSectionVars false
set_option linter.unusedVariables false
set_option linter.unusedSimpArgs false
namespace Go.Hl
open Go

section
variable {M : Md} {base : HPost} {k : List It}

end

def hexit (id : Nat) : List It → Option (List It)
  | [] => none
  | .inBlock j :: k => if id = j then some k else hexit id k
  | _ :: k => hexit id k

def pickV (σ : St) (env e1 : Env) (tt : List Nat) (want x : Bool) (a b : X) : D :=
  if x then (if want then evX σ e1 a else evX σ (killsE env tt) a) else (if want then evX σ (killsE env tt) b else evX σ e1 b)

def delN : List Nat → Nat → List Nat
  | [], _ => []
  | x :: xs, t => if x = t then delN xs t else x :: delN xs t
def delsN (dd : List Nat) : List Nat → List Nat
  | [] => dd
  | t :: ts => delsN (delN dd t) ts
def addB (v : D) (t : Nat) (dd : List Nat) : List Nat := match v with
  | .bool _ => t :: dd
  | _ => dd

theorem delN_mem {s t : Nat} : ∀ {dd : List Nat}, s ∈ delN dd t → s ∈ dd ∧ s ≠ t
  | [], h => by cases h
  | x :: xs, h => by
    simp only [delN] at h
    split at h
    · have := delN_mem h
      exact ⟨List.mem_cons_of_mem _ this.1, this.2⟩
    · rename_i hne
      rcases List.mem_cons.1 h with e | h
      · subst e; exact ⟨List.mem_cons_self, hne⟩
      · have := delN_mem h
        exact ⟨List.mem_cons_of_mem _ this.1, this.2⟩
theorem delsN_mem {s : Nat} : ∀ {ts dd : List Nat}, s ∈ delsN dd ts → s ∈ dd ∧ s ∉ ts
  | [], dd, h => ⟨h, fun h => by cases h⟩
  | t :: ts, dd, h => by
    have h1 := delsN_mem (ts := ts) h
    have h2 := delN_mem h1.1
    exact ⟨h2.1, fun hm => by rcases List.mem_cons.1 hm with e | hm; exact h2.2 e; exact h1.2 hm⟩
theorem addB_mem {s t : Nat} {v : D} {dd : List Nat} (h : s ∈ addB v t dd) : s = t ∨ s ∈ dd := by
  unfold addB at h
  split at h
  · exact List.mem_cons.1 h
  · exact .inr h

def runG (σ : St) : Nat → Nat → Bool → List Nat → List HI → Env → Option (Env × Prop × List Nat × List HI)
  | 0, _, _, _, l, env => some (env, True, [], l)
  | _ + 1, _, _, _, [], env => some (env, True, [], [])
  | n + 1, t, want, dd, ⟨d, g, op⟩ :: l, env =>
    match op with
    | .kill ts => if t ∈ ts then some (env, True, [], ⟨d, g, .kill ts⟩ :: l) else
      match runG σ n t want (delsN dd ts) l (killsE env ts) with
      | some (e, p, tt, r) => some (e, p, ts ++ tt, r)
      | none => none
    | op => match g, d with
      | some (t', want'), some dt =>
        if t' = t then
          if want' = want ∧ dt ≠ t then
            match hval σ (evX σ env) op with
            | some (v, p) => match runG σ n t want (addB v dt dd) l (putE env dt v) with
              | some (e, q, tt, r) => some (e, p ∧ q, dt :: tt, r)
              | none => none
            | none => none
          else some (env, True, [], ⟨d, g, op⟩ :: l)
        else if t' ∈ dd then
          match look env t' with
          | .bool x => match runG σ n t' want' [] (⟨d, g, op⟩ :: l) env with
            | some (e1, p, tt, r) => match r with
              | ⟨some d2, some (t2, w2), .pick (.tmp t3) a b⟩ :: l2 =>
                if t3 = t' ∧ t2 = t ∧ w2 = want ∧ d2 ≠ t ∧ t ∉ tt then
                  match runG σ n t want (d2 :: delsN dd tt) l2 (putE (killsE env tt) d2 (pickV σ env e1 tt want' x a b)) with
                  | some (e, q, tt2, r2) => some (e, (x = want' → p) ∧ q, d2 :: (tt ++ tt2), r2)
                  | none => none
                else some (env, True, [], ⟨d, g, op⟩ :: l)
              | _ => some (env, True, [], ⟨d, g, op⟩ :: l)
            | none => none
          | _ => some (env, True, [], ⟨d, g, op⟩ :: l)
        else some (env, True, [], ⟨d, g, op⟩ :: l)
      | _, _ => some (env, True, [], ⟨d, g, op⟩ :: l)

def hgrp (σ : St) (env : Env) (t : Nat) (want x : Bool) (l : List HI) : Option (Nat × D × Prop × Env × List HI) :=
  match runG σ 60 t want [] l env with
  | some (e1, p, tt, r) => match r with
    | ⟨some d, none, .pick (.tmp t') a b⟩ :: l2 =>
      if t' = t then some (d, pickV σ env e1 tt want x a b, p, killsE env tt, l2)
      else none
    | _ => none
  | none => none

def hone (σ : St) (env : Env) (g : Option (Nat × Bool)) (op : HO) (K : D → St → Prop) : Prop :=
  match g with
  | none => match hstep σ (evX σ env) op with
    | some (v, σ', p) => p ∧ K v σ'
    | none => False
  | some (t, want) => match look env t with
    | .bool x => (x = want → match hstep σ (evX σ env) op with
        | some (v, σ', p) => p ∧ K v σ'
        | none => False) ∧ (x = !want → K .dead σ)
    | .dead => K .dead σ
    | _ => False

def condJ (b : Bool) (P Q : Prop) : Prop := (b = true → P) ∧ (b = false → Q)

def gdV : D → Bool → Bool
  | .bool x, true => !x
  | .bool x, false => x
  | .dead, _ => true
  | _, _ => false
def gdB (env : Env) : Option (Nat × Bool) → Bool
  | none => false
  | some (t, w) => gdV (look env t) w
theorem gdB_guard {env : Env} {g : Option (Nat × Bool)} (h : gdB env g = true) : guardB env g = some false := by
  cases g with
  | none => cases h
  | some tw =>
    obtain ⟨t, w⟩ := tw
    simp only [gdB] at h
    simp only [guardB]
    cases hl : look env t <;> rw [hl] at h <;> simp only [gdV, Bool.false_eq_true] at h ⊢
    rename_i b
    cases b <;> cases w <;> simp_all

def hgo (M : Md) (base : HPost) : Nat → List It → Env → St → Prop
  | 0, k, env, σ => HX M base k env σ
  | _ + 1, [], env, σ => base .normal env σ
  | n + 1, .inBlock _ :: k, env, σ => hgo M base n k env σ
  | _ + 1, .stop I :: _, env, σ => I env σ
  | n + 1, .code c :: k, env, σ =>
    match c with
    | .skip => hgo M base n k env σ
    | .ret => base .ret env σ
    | .seq x y => hgo M base n (.code x :: .code y :: k) env σ
    | .block id x => hgo M base n (.code x :: .inBlock id :: k) env σ
    | .ops l => hgo M base n (.ops l :: k) env σ
    | .cond x p q => match evX σ env x with
      | .bool b => (b = true → hgo M base n (.code p :: k) env σ) ∧ (b = false → hgo M base n (.code q :: k) env σ)
      | _ => False
    | .exit id => match hexit id k with
      | some k' => hgo M base n k' env σ
      | none => HX M base (.code (.exit id) :: k) env σ
    | c => HX M base (.code c :: k) env σ
  | n + 1, .ops [] :: k, env, σ => hgo M base n k env σ
  | n + 1, .ops (⟨d, g, op⟩ :: l) :: k, env, σ =>
    match op with
    | .kill ts => hgo M base n (.ops l :: k) (killsE env ts) σ
    | .call f args => condJ (gdB env g) (hgo M base n (.ops l :: k) (putO env d .dead) σ) (HX M base (.ops (⟨d, g, .call f args⟩ :: l) :: k) env σ)
    | .eqSl neg x => condJ (gdB env g) (hgo M base n (.ops l :: k) (putO env d .dead) σ) (HX M base (.ops (⟨d, g, .eqSl neg x⟩ :: l) :: k) env σ)
    | op => match g with
      | none => match hstep σ (evX σ env) op with
        | some (v, σ', p) => p ∧ hgo M base n (.ops l :: k) (putO env d v) σ'
        | none => False
      | some (t, want) => match look env t with
        | .bool x => match hgrp σ env t want x (⟨d, some (t, want), op⟩ :: l) with
          | some (d', v, p, e, l2) => (x = want → p) ∧ hgo M base n (.ops l2 :: k) (putE e d' v) σ
          | none => hone σ env (some (t, want)) op fun v σ' => hgo M base n (.ops l :: k) (putO env d v) σ'
        | .dead => hgo M base n (.ops l :: k) (putO env d .dead) σ
        | _ => False

section
variable {M : Md} {base : HPost}

theorem KP_exit (id : Nat) : ∀ {k k' : List It} {env : Env} {σ : St}, hexit id k = some k' → HX M base k' env σ → KP M base k (.exit id) env σ
  | [], k', env, σ, h, hx => by simp [hexit] at h
  | .inBlock j :: k, k', env, σ, h, hx => by
    simp only [hexit] at h
    simp only [KP]
    split at h
    · rename_i e
      injection h with h
      subst h
      rw [if_pos e]
      exact hx
    · rename_i e
      rw [if_neg e]
      exact KP_exit id h hx
  | .code _ :: k, k', env, σ, h, hx => by simp only [hexit] at h; exact KP_exit id (k := k) h hx
  | .ops _ :: k, k', env, σ, h, hx => by simp only [hexit] at h; exact KP_exit id (k := k) h hx
  | .stop _ :: k, k', env, σ, h, hx => by simp only [hexit] at h; exact KP_exit id (k := k) h hx

theorem hstep_hval {σ : St} {ev : X → D} {op : HO} {v : D} {p : Prop} (h : hval σ ev op = some (v, p)) : hstep σ ev op = some (v, σ, p) := by
  cases op <;> first
    | (simp only [hstep, h]; done)
    | (simp [hval] at h; done)

theorem hx_le {k : List It} {l : List HI} {env env' : Env} {σ : St} (hl : leE env' env) (h : HX M base (.ops l :: k) env' σ) : HX M base (.ops l :: k) env σ :=
  fun ops i hc g w a hr => h ops i hc g w a (hr.withEnv (hr.er.le hl))

theorem look_killsE : ∀ (ts : List Nat) (env : Env) (s : Nat), look (killsE env ts) s = if s ∈ ts then .undef else look env s
  | [], env, s => by simp [killsE]
  | t :: ts, env, s => by
    simp only [killsE]
    rw [look_killsE ts (killE env t) s, look_killE]
    by_cases h1 : s ∈ ts
    · simp [h1]
    · by_cases h2 : s = t
      · simp [h1, h2]
      · simp [h1, h2]

def agE (tt : List Nat) (e e1 : Env) : Prop := ∀ s, s ∉ tt → look e1 s = look e s

theorem agE.le {tt : List Nat} {e e1 : Env} (h : agE tt e e1) : leE (killsE e tt) e1 := fun s => by
  rw [look_killsE]
  split
  · exact .inl rfl
  · rename_i hs
    exact .inr (h s hs).symm

theorem evX_le {σ : St} {tt : List Nat} {e e1 : Env} (h : agE tt e e1) (x : X) : evX σ (killsE e tt) x = .undef ∨ evX σ (killsE e tt) x = evX σ e1 x := by
  cases x with
  | tmp t => exact h.le t
  | const d => exact .inr rfl
  | fn f => exact .inr rfl
  | glob g => exact .inr rfl

theorem leE_putE {env' env : Env} {t : Nat} {d d' : D} (h : leE env' env) (hd : d' = .undef ∨ d' = d) : leE (putE env' t d') (putE env t d) := fun s => by
  rw [look_putE, look_putE]
  split
  · exact hd
  · exact h s

theorem pick_le {σ : St} {env e1 e2 : Env} {tt : List Nat} {want x : Bool} {a b : X} (h1 : x = want → e2 = e1) (h1a : agE tt env e1) (h2 : agE tt env e2) :
    pickV σ env e1 tt want x a b = .undef ∨ pickV σ env e1 tt want x a b = if x then evX σ e2 a else evX σ e2 b := by
  unfold pickV
  by_cases e : x = want
  · have := h1 e
    subst this
    subst e
    cases x
    · exact .inr rfl
    · exact .inr rfl
  · cases x <;> cases want <;> first
      | exact absurd rfl e
      | exact evX_le h2 b
      | exact evX_le h2 a

theorem pick_step {σ : St} {env e1 e2 : Env} {tt : List Nat} {want x : Bool} {t d : Nat} {gd : Option (Nat × Bool)} {a b : X} {l2 : List HI} {k : List It} (h1 : x = want → e2 = e1) (h1a : agE tt env e1) (h2 : agE tt env e2) (hx : look e2 t = .bool x) (hg : guardB e2 gd = some true)
    (hn : HX M base (.ops l2 :: k) (putE (killsE env tt) d (pickV σ env e1 tt want x a b)) σ) : HX M base (.ops (⟨some d, gd, .pick (.tmp t) a b⟩ :: l2) :: k) e2 σ := by
  have ht' : evX σ e2 (.tmp t) = .bool x := hx
  refine hx_op (d := if x then evX σ e2 a else evX σ e2 b) (σ' := σ) (p := True) hg (hstep_hval (by simp only [hval, ht'])) trivial ?_
  exact hx_le (leE_putE h2.le (pick_le h1 h1a h2)) hn

theorem runG_sound {σ : St} {k : List It} : ∀ (n : Nat) {t : Nat} {want : Bool} {dd : List Nat} {l : List HI} {env e1 : Env} {p : Prop} {tt : List Nat} {r : List HI}, runG σ n t want dd l env = some (e1, p, tt, r) →
    agE tt env e1 ∧ t ∉ tt ∧ (look env t = .bool want → p → HX M base (.ops r :: k) e1 σ → HX M base (.ops l :: k) env σ) ∧
      (∀ eb, (look eb t = .bool (!want) ∨ look eb t = .dead) → (∀ s ∈ dd, look eb s = .dead) → ∃ e2, agE tt eb e2 ∧ (HX M base (.ops r :: k) e2 σ → HX M base (.ops l :: k) eb σ))
  | 0, t, want, dd, l, env, e1, p, tt, r, h => by
    simp only [runG, Option.some.injEq, Prod.mk.injEq] at h
    obtain ⟨rfl, rfl, rfl, rfl⟩ := h
    exact ⟨fun _ _ => rfl, by simp, fun _ _ h => h, fun eb _ _ => ⟨eb, fun _ _ => rfl, fun h => h⟩⟩
  | n + 1, t, want, dd, [], env, e1, p, tt, r, h => by
    simp only [runG, Option.some.injEq, Prod.mk.injEq] at h
    obtain ⟨rfl, rfl, rfl, rfl⟩ := h
    exact ⟨fun _ _ => rfl, by simp, fun _ _ h => h, fun eb _ _ => ⟨eb, fun _ _ => rfl, fun h => h⟩⟩
  | n + 1, t, want, dd, ⟨d, g, op⟩ :: l, env, e1, p, tt, r, h => by
    have triv : some (env, True, [], ⟨d, g, op⟩ :: l) = some (e1, p, tt, r) → agE tt env e1 ∧ t ∉ tt ∧ (look env t = .bool want → p → HX M base (.ops r :: k) e1 σ → HX M base (.ops (⟨d, g, op⟩ :: l) :: k) env σ) ∧
        (∀ eb, (look eb t = .bool (!want) ∨ look eb t = .dead) → (∀ s ∈ dd, look eb s = .dead) → ∃ e2, agE tt eb e2 ∧ (HX M base (.ops r :: k) e2 σ → HX M base (.ops (⟨d, g, op⟩ :: l) :: k) eb σ)) := fun h => by
      simp only [Option.some.injEq, Prod.mk.injEq] at h
      obtain ⟨rfl, rfl, rfl, rfl⟩ := h
      exact ⟨fun _ _ => rfl, by simp, fun _ _ h => h, fun eb _ _ => ⟨eb, fun _ _ => rfl, fun h => h⟩⟩
    have notw : ∀ {eb : Env}, (look eb t = .bool (!want) ∨ look eb t = .dead) → guardB eb (some (t, want)) = some false := fun {eb} hb => by
      simp only [guardB]
      rcases hb with hb | hb <;> rw [hb]
      cases want <;> rfl
    unfold runG at h
    split at h
    · rename_i ts
      split at h
      · exact triv h
      · rename_i hts
        split at h
        · rename_i e p' tt' r' hr
          simp only [Option.some.injEq, Prod.mk.injEq] at h
          obtain ⟨rfl, rfl, rfl, rfl⟩ := h
          obtain ⟨h1, h2, h3, h4⟩ := runG_sound (k := k) n hr
          have hag : ∀ env, agE ts env (killsE env ts) := fun env s hs => by rw [look_killsE, if_neg hs]
          refine ⟨fun s hs => ?_, by simp [hts, h2], fun ht hp hx => hx_kill (h3 (by rw [hag env t hts]; exact ht) hp hx), fun eb ht hd => ?_⟩
          · simp only [List.mem_append, not_or] at hs
            rw [h1 s hs.2, hag env s hs.1]
          · obtain ⟨e2, he2, hx2⟩ := h4 (killsE eb ts) (by rw [hag eb t hts]; exact ht) (fun s hs => by
              have hs := delsN_mem hs
              rw [hag eb s hs.2]; exact hd s hs.1)
            refine ⟨e2, fun s hs => ?_, fun hx => hx_kill (hx2 hx)⟩
            simp only [List.mem_append, not_or] at hs
            rw [he2 s hs.2, hag eb s hs.1]
        · cases h
    · rename_i hnk
      have hk : isKill op = false := by
        cases op <;> first
          | rfl
          | exact absurd rfl (hnk _)
      split at h
      · rename_i t' want' dt
        split at h
        · rename_i htt
          subst htt
          split at h
          · rename_i hc
            obtain ⟨rfl, hdt⟩ := hc
            split at h
            · rename_i v p1 hv
              split at h
              · rename_i e q tt' r' hr
                simp only [Option.some.injEq, Prod.mk.injEq] at h
                obtain ⟨rfl, rfl, rfl, rfl⟩ := h
                obtain ⟨h1, h2, h3, h4⟩ := runG_sound (k := k) n hr
                have hlk : ∀ eb v, look (putE eb dt v) t' = look eb t' := fun eb v => by rw [look_putE, if_neg (fun e => hdt e.symm)]
                refine ⟨fun s hs => ?_, by simp [h2]; exact fun e => hdt e.symm, fun ht hp hx => ?_, fun eb ht hd => ?_⟩
                · simp only [List.mem_cons, not_or] at hs
                  rw [h1 s hs.2, look_putE, if_neg hs.1]
                · refine hx_op (by simp only [guardB, ht]; simp) (hstep_hval hv) hp.1 ?_
                  exact h3 (by rw [hlk]; exact ht) hp.2 hx
                · obtain ⟨e2, he2, hx2⟩ := h4 (putE eb dt .dead) (by rw [hlk]; exact ht) (fun s hs => by
                    rw [look_putE]
                    split
                    · rfl
                    · rename_i hne
                      rcases addB_mem hs with e | hs
                      · exact absurd e hne
                      · exact hd s hs)
                  refine ⟨e2, fun s hs => ?_, fun hx => hx_op_not hk (notw ht) (hx2 hx)⟩
                  simp only [List.mem_cons, not_or] at hs
                  rw [he2 s hs.2, look_putE, if_neg hs.1]
              · cases h
            · cases h
          · exact triv h
        · rename_i htt
          split at h
          · rename_i hdd
            split at h
            · rename_i x hx
              split at h
              · rename_i e0 p0 tt0 r0 hr0
                obtain ⟨i1, i2, i3, i4⟩ := runG_sound (k := k) n hr0
                split at h
                · rename_i d2 t2 w2 t3 a b l2
                  split at h
                  · rename_i hc
                    obtain ⟨rfl, rfl, rfl, hd2, ht0⟩ := hc
                    split at h
                    · rename_i e q tt2 r2 hr
                      simp only [Option.some.injEq, Prod.mk.injEq] at h
                      obtain ⟨rfl, rfl, rfl, rfl⟩ := h
                      obtain ⟨h1, h2, h3, h4⟩ := runG_sound (k := k) n hr
                      have hlk : ∀ eb v, look (putE eb d2 v) t2 = look eb t2 := fun eb v => by rw [look_putE, if_neg (fun e => hd2 e.symm)]
                      have hks : look (killsE env tt0) t2 = look env t2 := by rw [look_killsE, if_neg ht0]
                      refine ⟨fun s hs => ?_, ?_, fun ht hp hn => ?_, fun eb ht hd => ?_⟩
                      · simp only [List.mem_cons, List.mem_append, not_or] at hs
                        rw [h1 s hs.2.2, look_putE, if_neg hs.1, look_killsE, if_neg hs.2.1]
                      · simp only [List.mem_cons, List.mem_append, not_or]
                        exact ⟨fun e => hd2 e.symm, ht0, h2⟩
                      · have hn' := h3 (by rw [hlk, hks]; exact ht) hp.2 hn
                        by_cases hw : x = want'
                        · subst hw
                          refine i3 hx (hp.1 rfl) (pick_step (fun _ => rfl) i1 i1 (by rw [i1 t3 i2, hx]) ?_ hn')
                          simp only [guardB, i1 t2 ht0, ht]; simp
                        · have hw' : x = !want' := by cases x <;> cases want' <;> simp_all
                          obtain ⟨e2, he2, hx2⟩ := i4 env (.inl (by rw [hx, hw'])) (fun _ h => by cases h)
                          refine hx2 (pick_step (fun e => absurd e hw) i1 he2 (by rw [he2 t3 i2, hx]) ?_ hn')
                          simp only [guardB, he2 t2 ht0, ht]; simp
                      · obtain ⟨e2, he2, hx2⟩ := i4 eb (.inr (hd _ hdd)) (fun _ h => by cases h)
                        obtain ⟨e3, he3, hx3⟩ := h4 (putE e2 d2 .dead) (by rw [hlk, he2 t2 ht0]; exact ht) (fun s hs => by
                          rw [look_putE]
                          split
                          · rfl
                          · rename_i hne
                            rcases List.mem_cons.1 hs with e | hs
                            · exact absurd e hne
                            · have hs := delsN_mem hs
                              rw [he2 s hs.2]
                              exact hd s hs.1)
                        refine ⟨e3, fun s hs => ?_, fun hx => hx2 (hx_op_not rfl (notw (by rw [he2 t2 ht0]; exact ht)) (hx3 hx))⟩
                        simp only [List.mem_cons, List.mem_append, not_or] at hs
                        rw [he3 s hs.2.2, look_putE, if_neg hs.1, he2 s hs.2.1]
                    · cases h
                  · exact triv h
                · exact triv h
              · cases h
            · exact triv h
          · exact triv h
      · exact triv h

theorem hgrp_sound {σ : St} {env e : Env} {t d' : Nat} {want x : Bool} {l l2 : List HI} {v : D} {p : Prop} {k : List It} (ht : look env t = .bool x) (h : hgrp σ env t want x l = some (d', v, p, e, l2))
    (hp : x = want → p) (hn : HX M base (.ops l2 :: k) (putE e d' v) σ) : HX M base (.ops l :: k) env σ := by
  unfold hgrp at h
  split at h; rotate_left; · cases h
  rename_i e1 p' tt r hr
  split at h; rotate_left; · cases h
  rename_i d t' a b l2'
  split at h; rotate_left; · cases h
  rename_i e
  subst e
  simp only [Option.some.injEq, Prod.mk.injEq] at h
  obtain ⟨rfl, rfl, rfl, rfl, rfl⟩ := h
  obtain ⟨h1, h2, h3, h4⟩ := runG_sound (M := M) (base := base) (k := k) 60 hr
  by_cases hw : x = want
  · subst hw
    exact h3 ht (hp rfl) (pick_step (fun _ => rfl) h1 h1 (by rw [h1 t' h2, ht]) rfl hn)
  · have hw' : x = !want := by cases x <;> cases want <;> simp_all
    obtain ⟨e2, he2, hx2⟩ := h4 env (.inl (by rw [ht, hw'])) (fun _ h => by cases h)
    exact hx2 (pick_step (fun e => absurd e hw) h1 he2 (by rw [he2 t' h2, ht]) rfl hn)

theorem hgo_sound : ∀ (n : Nat) {k : List It} {env : Env} {σ : St}, hgo M base n k env σ → HX M base k env σ
  | 0, k, env, σ, h => h
  | n + 1, [], env, σ, h => h
  | n + 1, .inBlock _ :: k, env, σ, h => hx_inBlock (hgo_sound n h)
  | n + 1, .stop I :: k, env, σ, h => hx_stop h
  | n + 1, .code c :: k, env, σ, h => by
    cases c with
    | skip => exact hx_skip (hgo_sound n h)
    | ret => exact hx_ret h
    | seq x y => exact hx_seq (hgo_sound n h)
    | block id x => exact hx_block (hgo_sound n h)
    | ops l => exact hx_ops (hgo_sound n h)
    | cond x p q =>
      simp only [hgo] at h
      split at h
      · rename_i b hb
        refine hx_cond hb ?_
        cases b
        · exact hgo_sound n (h.2 rfl)
        · exact hgo_sound n (h.1 rfl)
      · exact h.elim
    | exit id =>
      simp only [hgo] at h
      split at h
      · rename_i k' hk
        exact hx_exit (KP_exit id hk (hgo_sound n h))
      · exact h
    | loop c => exact h
    | refuse => exact h
    | draw l => exact h
    | range f ps a b => exact h
  | n + 1, .ops [] :: k, env, σ, h => hx_ops_nil (hgo_sound n h)
  | n + 1, .ops (⟨d, g, op⟩ :: l) :: k, env, σ, h => by
    have step : ∀ {op : HO}, (∀ ts, op ≠ .kill ts) → (∀ f args, op ≠ .call f args) →
        (match (motive := Option (Nat × Bool) → Prop) g with
          | none => match hstep σ (evX σ env) op with
            | some (v, σ', p) => p ∧ hgo M base n (.ops l :: k) (putO env d v) σ'
            | none => False
          | some (t, want) => match look env t with
            | .bool x => match hgrp σ env t want x (⟨d, some (t, want), op⟩ :: l) with
              | some (d', v, p, e, l2) => (x = want → p) ∧ hgo M base n (.ops l2 :: k) (putE e d' v) σ
              | none => hone σ env (some (t, want)) op fun v σ' => hgo M base n (.ops l :: k) (putO env d v) σ'
            | .dead => hgo M base n (.ops l :: k) (putO env d .dead) σ
            | _ => False) → HX M base (.ops (⟨d, g, op⟩ :: l) :: k) env σ := by
      intro op hnk hnc h
      have one : (match hstep σ (evX σ env) op with
            | some (v, σ', p) => p ∧ hgo M base n (.ops l :: k) (putO env d v) σ'
            | none => False) → guardB env g = some true → HX M base (.ops (⟨d, g, op⟩ :: l) :: k) env σ := by
        intro h hg
        split at h
        · rename_i v σ1 p hs
          exact hx_op hg hs h.1 (hgo_sound n h.2)
        · exact h.elim
      cases g with
      | none => exact one h rfl
      | some tw =>
        obtain ⟨t, want⟩ := tw
        simp only at h
        split at h
        · rename_i x hx
          split at h
          · rename_i d' v p e l2 hgr
            exact hgrp_sound hx hgr h.1 (hgo_sound n h.2)
          · simp only [hone, hx] at h
            by_cases e : x = want
            · exact one (h.1 e) (by simp only [guardB, hx]; simp [e])
            · refine hx_op_not ?_ ?_ (hgo_sound n (h.2 (by cases x <;> cases want <;> simp_all)))
              · cases op <;> first
                  | rfl
                  | exact absurd rfl (hnk _)
                  | exact absurd rfl (hnc _ _)
              · simp only [guardB, hx]
                simp [e]
        · rename_i hx
          refine hx_op_not ?_ (by simp only [guardB, hx]) (hgo_sound n h)
          cases op <;> first
            | rfl
            | exact absurd rfl (hnk _)
            | exact absurd rfl (hnc _ _)
        · exact h.elim
    cases op
    case kill ts => exact hx_kill (hgo_sound n h)
    case call f args =>
      cases hb : gdB env g
      · exact h.2 hb
      · exact hx_op_not rfl (gdB_guard hb) (hgo_sound n (h.1 hb))
    case eqSl neg x =>
      cases hb : gdB env g
      · exact h.2 hb
      · exact hx_op_not rfl (gdB_guard hb) (hgo_sound n (h.1 hb))
    all_goals exact step (fun _ e => by cases e) (fun _ _ e => by cases e) h

end

abbrev GR := Option (Env × Prop × List Nat × List HI)

def bindG (o : Option (D × Prop)) (k : D → Prop → GR) : GR := match o with
  | some (v, p) => k v p
  | none => none
def addG (tt : List Nat) (p : Prop) : GR → GR
  | some (e, q, tt2, r) => some (e, p ∧ q, tt ++ tt2, r)
  | none => none
def nestL (lk : D) (k : Bool → GR) (stop : GR) : GR := match lk with
  | .bool x => k x
  | _ => stop
def nestK (σ : St) (n t : Nat) (want : Bool) (dd : List Nat) (env : Env) (t' : Nat) (want' : Bool) (stop : List HI) (x : Bool) : GR → GR
  | some (e1, p, tt, r) => match r with
    | ⟨some d2, some (t2, w2), .pick (.tmp t3) a b⟩ :: l2 =>
      if t3 = t' ∧ t2 = t ∧ w2 = want ∧ d2 ≠ t ∧ t ∉ tt then
        addG (d2 :: tt) (x = want' → p) (runG σ n t want (d2 :: delsN dd tt) l2 (putE (killsE env tt) d2 (pickV σ env e1 tt want' x a b)))
      else some (env, True, [], stop)
    | _ => some (env, True, [], stop)
  | none => none

section
variable {σ : St} {n t : Nat} {want : Bool} {dd : List Nat} {env : Env} {l : List HI}

theorem runG_kill' {d : Option Nat} {g : Option (Nat × Bool)} {ts : List Nat} (h : t ∉ ts) : runG σ (n + 1) t want dd (⟨d, g, .kill ts⟩ :: l) env = addG ts True (runG σ n t want (delsN dd ts) l (killsE env ts)) := by
  rw [runG]
  simp only [if_neg h]
  unfold addG
  split <;> rename_i e <;> rw [e] <;> simp
theorem runG_kill_stop' {d : Option Nat} {g : Option (Nat × Bool)} {ts : List Nat} (h : t ∈ ts) : runG σ (n + 1) t want dd (⟨d, g, .kill ts⟩ :: l) env = some (env, True, [], ⟨d, g, .kill ts⟩ :: l) := by
  rw [runG]
  simp only [if_pos h]
theorem runG_step' {dt : Nat} {op : HO} (hk : isKill op = false) (hd : dt ≠ t) :
    runG σ (n + 1) t want dd (⟨some dt, some (t, want), op⟩ :: l) env = bindG (hval σ (evX σ env) op) fun v p => addG [dt] p (runG σ n t want (addB v dt dd) l (putE env dt v)) := by
  have : ∀ ts, op ≠ .kill ts := fun ts e => by rw [e] at hk; cases hk
  rw [runG]
  · simp only [if_true, true_and, if_pos hd]
    unfold bindG addG
    cases hval σ (evX σ env) op with
    | none => rfl
    | some q =>
      obtain ⟨v, p⟩ := q
      simp only
      cases runG σ n t want (addB v dt dd) l (putE env dt v) with
      | none => rfl
      | some q => rfl
  · exact this
theorem runG_opp' {dt : Nat} {w : Bool} {op : HO} (hk : isKill op = false) (hw : w ≠ want) : runG σ (n + 1) t want dd (⟨some dt, some (t, w), op⟩ :: l) env = some (env, True, [], ⟨some dt, some (t, w), op⟩ :: l) := by
  have : ∀ ts, op ≠ .kill ts := fun ts e => by rw [e] at hk; cases hk
  rw [runG]
  · simp only [if_true, hw, false_and, if_false]
  · exact this
theorem runG_free' {d : Option Nat} {op : HO} (hk : isKill op = false) : runG σ (n + 1) t want dd (⟨d, none, op⟩ :: l) env = some (env, True, [], ⟨d, none, op⟩ :: l) := by
  have : ∀ ts, op ≠ .kill ts := fun ts e => by rw [e] at hk; cases hk
  rw [runG]
  · exact this
  · intros; simp_all
theorem runG_eff' {g : Option (Nat × Bool)} {op : HO} (hk : isKill op = false) : runG σ (n + 1) t want dd (⟨none, g, op⟩ :: l) env = some (env, True, [], ⟨none, g, op⟩ :: l) := by
  have : ∀ ts, op ≠ .kill ts := fun ts e => by rw [e] at hk; cases hk
  rw [runG]
  · exact this
  · intros; simp_all
theorem runG_other' {dt t' : Nat} {w : Bool} {op : HO} (hk : isKill op = false) (ht : t' ≠ t) (hd : t' ∉ dd) : runG σ (n + 1) t want dd (⟨some dt, some (t', w), op⟩ :: l) env = some (env, True, [], ⟨some dt, some (t', w), op⟩ :: l) := by
  have : ∀ ts, op ≠ .kill ts := fun ts e => by rw [e] at hk; cases hk
  rw [runG]
  · simp only [if_neg ht, if_neg hd]
  · exact this
theorem runG_nest' {dt t' : Nat} {w : Bool} {op : HO} (hk : isKill op = false) (ht : t' ≠ t) (hd : t' ∈ dd) : runG σ (n + 1) t want dd (⟨some dt, some (t', w), op⟩ :: l) env =
    nestL (look env t') (fun x => nestK σ n t want dd env t' w (⟨some dt, some (t', w), op⟩ :: l) x (runG σ n t' w [] (⟨some dt, some (t', w), op⟩ :: l) env)) (some (env, True, [], ⟨some dt, some (t', w), op⟩ :: l)) := by
  have : ∀ ts, op ≠ .kill ts := fun ts e => by rw [e] at hk; cases hk
  rw [runG]
  · simp only [if_neg ht, if_pos hd]
    unfold nestL
    cases look env t' <;> rfl
  · exact this

structure NotKill (op : HO) : Prop where
  h : isKill op = false

theorem runG_nil (hn : n ≠ 0) : runG σ n t want dd [] env = some (env, True, [], []) := by
  cases n with | zero => exact absurd rfl hn | succ n => rfl
theorem runG_kill {d : Option Nat} {g : Option (Nat × Bool)} {ts : List Nat} (hn : n ≠ 0) (h : t ∉ ts) : runG σ n t want dd (⟨d, g, .kill ts⟩ :: l) env = addG ts True (runG σ (n - 1) t want (delsN dd ts) l (killsE env ts)) := by
  cases n with | zero => exact absurd rfl hn | succ n => exact runG_kill' h
theorem runG_kill_stop {d : Option Nat} {g : Option (Nat × Bool)} {ts : List Nat} (hn : n ≠ 0) (h : t ∈ ts) : runG σ n t want dd (⟨d, g, .kill ts⟩ :: l) env = some (env, True, [], ⟨d, g, .kill ts⟩ :: l) := by
  cases n with | zero => exact absurd rfl hn | succ n => exact runG_kill_stop' h
theorem runG_step {dt : Nat} {op : HO} (hn : n ≠ 0) (hk : NotKill op) (hd : dt ≠ t) :
    runG σ n t want dd (⟨some dt, some (t, want), op⟩ :: l) env = bindG (hval σ (evX σ env) op) fun v p => addG [dt] p (runG σ (n - 1) t want (addB v dt dd) l (putE env dt v)) := by
  cases n with | zero => exact absurd rfl hn | succ n => exact runG_step' hk.h hd
theorem runG_opp {dt : Nat} {w : Bool} {op : HO} (hn : n ≠ 0) (hk : NotKill op) (hw : w ≠ want) : runG σ n t want dd (⟨some dt, some (t, w), op⟩ :: l) env = some (env, True, [], ⟨some dt, some (t, w), op⟩ :: l) := by
  cases n with | zero => exact absurd rfl hn | succ n => exact runG_opp' hk.h hw
theorem runG_free {d : Option Nat} {op : HO} (hn : n ≠ 0) (hk : NotKill op) : runG σ n t want dd (⟨d, none, op⟩ :: l) env = some (env, True, [], ⟨d, none, op⟩ :: l) := by
  cases n with | zero => exact absurd rfl hn | succ n => exact runG_free' hk.h
theorem runG_eff {g : Option (Nat × Bool)} {op : HO} (hn : n ≠ 0) (hk : NotKill op) : runG σ n t want dd (⟨none, g, op⟩ :: l) env = some (env, True, [], ⟨none, g, op⟩ :: l) := by
  cases n with | zero => exact absurd rfl hn | succ n => exact runG_eff' hk.h
theorem runG_other {dt t' : Nat} {w : Bool} {op : HO} (hn : n ≠ 0) (hk : NotKill op) (ht : t' ≠ t) (hd : t' ∉ dd) : runG σ n t want dd (⟨some dt, some (t', w), op⟩ :: l) env = some (env, True, [], ⟨some dt, some (t', w), op⟩ :: l) := by
  cases n with | zero => exact absurd rfl hn | succ n => exact runG_other' hk.h ht hd
theorem runG_nest {dt t' : Nat} {w : Bool} {op : HO} (hn : n ≠ 0) (hk : NotKill op) (ht : t' ≠ t) (hd : t' ∈ dd) : runG σ n t want dd (⟨some dt, some (t', w), op⟩ :: l) env =
    nestL (look env t') (fun x => nestK σ (n - 1) t want dd env t' w (⟨some dt, some (t', w), op⟩ :: l) x (runG σ (n - 1) t' w [] (⟨some dt, some (t', w), op⟩ :: l) env)) (some (env, True, [], ⟨some dt, some (t', w), op⟩ :: l)) := by
  cases n with | zero => exact absurd rfl hn | succ n => exact runG_nest' hk.h ht hd

theorem isKill_mv (x : X) : NotKill (.mv x) := ⟨rfl⟩
theorem isKill_pick (c a b : X) : NotKill (.pick c a b) := ⟨rfl⟩
theorem isKill_alloc (z : List D) : NotKill (.alloc z) := ⟨rfl⟩
theorem isKill_box (x : X) : NotKill (.box x) := ⟨rfl⟩
theorem isKill_build (z : List D) (ps : List (Nat × Nat × X)) : NotKill (.build z ps) := ⟨rfl⟩
theorem isKill_bslice (sz : Nat) (z : List (List D)) (ps : List (Nat × X)) : NotKill (.bslice sz z ps) := ⟨rfl⟩
theorem isKill_bvec (sz : Nat) (z : List (List D)) (ps : List (Nat × X)) : NotKill (.bvec sz z ps) := ⟨rfl⟩
theorem isKill_vslice (sz : Nat) (x : X) (hi : X) : NotKill (.vslice sz x hi) := ⟨rfl⟩
theorem isKill_vappend (sz bytes : Nat) (x y : X) : NotKill (.vappend sz bytes x y) := ⟨rfl⟩
theorem isKill_load (sz : Option Nat) (x : X) : NotKill (.load sz x) := ⟨rfl⟩
theorem isKill_store (sz : Nat) (a v : X) : NotKill (.store sz a v) := ⟨rfl⟩
theorem isKill_nilck (x : X) : NotKill (.nilck x) := ⟨rfl⟩
theorem isKill_bin (op : BinOp) (x y : X) : NotKill (.bin op x y) := ⟨rfl⟩
theorem isKill_eqBool (neg : Bool) (x y : X) : NotKill (.eqBool neg x y) := ⟨rfl⟩
theorem isKill_eqPtr (neg : Bool) (x y : X) : NotKill (.eqPtr neg x y) := ⟨rfl⟩
theorem isKill_eqIf (neg : Bool) (x y : X) : NotKill (.eqIf neg x y) := ⟨rfl⟩
theorem isKill_not (x : X) : NotKill (.not x) := ⟨rfl⟩
theorem isKill_neg (x : X) : NotKill (.neg x) := ⟨rfl⟩
theorem isKill_convI (k : IntKind) (x : X) : NotKill (.convI k x) := ⟨rfl⟩
theorem isKill_mkif (t : Nat) (x : X) : NotKill (.mkif t x) := ⟨rfl⟩
theorem isKill_mkfn (f : Nat) (caps : List X) : NotKill (.mkfn f caps) := ⟨rfl⟩
theorem isKill_slice (sz : Nat) (x : X) (lo hi : Option X) : NotKill (.slice sz x lo hi) := ⟨rfl⟩
theorem isKill_sliceS (x : X) (lo hi : Option X) : NotKill (.sliceS x lo hi) := ⟨rfl⟩
theorem isKill_cut (sz : Nat) (x : X) (lo hi mx : X) : NotKill (.cut sz x lo hi mx) := ⟨rfl⟩
theorem isKill_faddr (x : X) (off : Nat) : NotKill (.faddr x off) := ⟨rfl⟩
theorem isKill_field (sz : Option Nat) (x : X) (off : Nat) : NotKill (.field sz x off) := ⟨rfl⟩
theorem isKill_iaddr (sz : Nat) (x i : X) : NotKill (.iaddr sz x i) := ⟨rfl⟩
theorem isKill_aaddr (sz len : Nat) (x i : X) : NotKill (.aaddr sz len x i) := ⟨rfl⟩
theorem isKill_aidx (s : Option Nat) (sz len : Nat) (x i : X) : NotKill (.aidx s sz len x i) := ⟨rfl⟩
theorem isKill_index (x i : X) : NotKill (.index x i) := ⟨rfl⟩
theorem isKill_extract (x : X) (i : Nat) : NotKill (.extract x i) := ⟨rfl⟩
theorem isKill_len (x : X) : NotKill (.len x) := ⟨rfl⟩
theorem isKill_lenS (x : X) : NotKill (.lenS x) := ⟨rfl⟩
theorem isKill_append (e sz bytes : Nat) (x y : X) : NotKill (.append e sz bytes x y) := ⟨rfl⟩
theorem isKill_allocT (t : Nat) (z : List D) : NotKill (.allocT t z) := ⟨rfl⟩
theorem isKill_convU (x : X) : NotKill (.convU x) := ⟨rfl⟩
theorem isKill_convT (u n : Nat) (x : X) : NotKill (.convT u n x) := ⟨rfl⟩
theorem isKill_usd (x : X) : NotKill (.usd x) := ⟨rfl⟩
theorem isKill_ustr (e : Nat) (x n : X) : NotKill (.ustr e x n) := ⟨rfl⟩
theorem isKill_assertT (t : Nat) (x : X) : NotKill (.assertT t x) := ⟨rfl⟩
theorem isKill_sliceA (n : Nat) (x : X) : NotKill (.sliceA n x) := ⟨rfl⟩
theorem isKill_bstr (x : X) : NotKill (.bstr x) := ⟨rfl⟩
theorem isKill_mm (b : Bool) (x y : X) : NotKill (.mm b x y) := ⟨rfl⟩
theorem isKill_eqSl (b : Bool) (x : X) : NotKill (.eqSl b x) := ⟨rfl⟩
theorem isKill_eqAgg (b : Bool) (ks : List Nat) (x y : X) : NotKill (.eqAgg b ks x y) := ⟨rfl⟩
theorem isKill_call (f : X) (args : List X) : NotKill (.call f args) := ⟨rfl⟩

theorem bindG_some {v : D} {p : Prop} {k : D → Prop → GR} : bindG (some (v, p)) k = k v p := rfl
theorem addG_some {tt tt2 : List Nat} {p q : Prop} {e : Env} {r : List HI} : addG tt p (some (e, q, tt2, r)) = some (e, p ∧ q, tt ++ tt2, r) := rfl
theorem nestL_bool {x : Bool} {k : Bool → GR} {stop : GR} : nestL (.bool x) k stop = k x := rfl
theorem nestK_pick {t' : Nat} {want' x : Bool} {stop : List HI} {e1 : Env} {p : Prop} {tt : List Nat} {d2 : Nat} {a b : X} {l2 : List HI} (hd : d2 ≠ t) (ht : t ∉ tt) :
    nestK σ n t want dd env t' want' stop x (some (e1, p, tt, ⟨some d2, some (t, want), .pick (.tmp t') a b⟩ :: l2)) =
      addG (d2 :: tt) (x = want' → p) (runG σ n t want (d2 :: delsN dd tt) l2 (putE (killsE env tt) d2 (pickV σ env e1 tt want' x a b))) := by
  unfold nestK
  simp only [true_and, ne_eq, hd, not_false_eq_true, ht, and_self, if_true]

def hgrpK (σ : St) (env : Env) (t : Nat) (want x : Bool) : GR → Option (Nat × D × Prop × Env × List HI)
  | some (e1, p, tt, r) => match r with
    | ⟨some d, none, .pick (.tmp t') a b⟩ :: l2 =>
      if t' = t then some (d, pickV σ env e1 tt want x a b, p, killsE env tt, l2)
      else none
    | _ => none
  | none => none
theorem bindG_none {k : D → Prop → GR} : bindG none k = none := rfl
theorem addG_none {ts : List Nat} {p : Prop} : addG ts p none = none := rfl
theorem hgrpK_none {x : Bool} : hgrpK σ env t want x none = none := rfl
theorem nestK_none {t' : Nat} {want' x : Bool} {stop : List HI} : nestK σ n t want dd env t' want' stop x none = none := rfl
theorem hgrpK_guarded {want x : Bool} {e : Env} {p : Prop} {tt : List Nat} {d : Nat} {g : Nat × Bool} {op : HO} {l2 : List HI} : hgrpK σ env t want x (some (e, p, tt, ⟨some d, some g, op⟩ :: l2)) = none := rfl
theorem hgrp_eq {x : Bool} : hgrp σ env t want x l = hgrpK σ env t want x (runG σ 60 t want [] l env) := rfl
theorem hgrpK_pick {x : Bool} {e1 : Env} {p : Prop} {tt : List Nat} {d : Nat} {a b : X} {l2 : List HI} : hgrpK σ env t want x (some (e1, p, tt, ⟨some d, none, .pick (.tmp t) a b⟩ :: l2)) = some (d, pickV σ env e1 tt want x a b, p, killsE env tt, l2) := by
  simp only [hgrpK, if_true]
end

@[congr] theorem bindG_congr {o o' : Option (D × Prop)} {k : D → Prop → GR} (h : o = o') : bindG o k = bindG o' k := by rw [h]
@[congr] theorem nestL_congr {o o' : D} {k : Bool → GR} {s : GR} (h : o = o') : nestL o k s = nestL o' k s := by rw [h]
@[congr] theorem nestK_congr {σ : St} {n t : Nat} {want : Bool} {dd : List Nat} {env : Env} {t' : Nat} {want' : Bool} {stop : List HI} {x : Bool} {r r' : GR} (h : r = r') : nestK σ n t want dd env t' want' stop x r = nestK σ n t want dd env t' want' stop x r' := by rw [h]
@[congr] theorem addG_congr {tt : List Nat} {p p' : Prop} {r r' : GR} (h : p = p') (h2 : r = r') : addG tt p r = addG tt p' r' := by rw [h, h2]
@[congr] theorem hgrpK_congr {σ : St} {env : Env} {t : Nat} {w x : Bool} {r r' : GR} (h : r = r') : hgrpK σ env t w x r = hgrpK σ env t w x r' := by rw [h]

structure NotCall (op : HO) : Prop where
  h : (∀ f args, op ≠ .call f args) ∧ ∀ neg x, op ≠ .eqSl neg x

theorem notCall_mv (x : X) : NotCall (.mv x) := ⟨(fun _ _ h => by cases h), fun _ _ h => by cases h⟩
theorem notCall_pick (c a b : X) : NotCall (.pick c a b) := ⟨(fun _ _ h => by cases h), fun _ _ h => by cases h⟩
theorem notCall_alloc (z : List D) : NotCall (.alloc z) := ⟨(fun _ _ h => by cases h), fun _ _ h => by cases h⟩
theorem notCall_box (x : X) : NotCall (.box x) := ⟨(fun _ _ h => by cases h), fun _ _ h => by cases h⟩
theorem notCall_build (z : List D) (ps : List (Nat × Nat × X)) : NotCall (.build z ps) := ⟨(fun _ _ h => by cases h), fun _ _ h => by cases h⟩
theorem notCall_bslice (sz : Nat) (z : List (List D)) (ps : List (Nat × X)) : NotCall (.bslice sz z ps) := ⟨(fun _ _ h => by cases h), fun _ _ h => by cases h⟩
theorem notCall_bvec (sz : Nat) (z : List (List D)) (ps : List (Nat × X)) : NotCall (.bvec sz z ps) := ⟨(fun _ _ h => by cases h), fun _ _ h => by cases h⟩
theorem notCall_vslice (sz : Nat) (x : X) (hi : X) : NotCall (.vslice sz x hi) := ⟨(fun _ _ h => by cases h), fun _ _ h => by cases h⟩
theorem notCall_vappend (sz bytes : Nat) (x y : X) : NotCall (.vappend sz bytes x y) := ⟨(fun _ _ h => by cases h), fun _ _ h => by cases h⟩
theorem notCall_load (sz : Option Nat) (x : X) : NotCall (.load sz x) := ⟨(fun _ _ h => by cases h), fun _ _ h => by cases h⟩
theorem notCall_store (sz : Nat) (a v : X) : NotCall (.store sz a v) := ⟨(fun _ _ h => by cases h), fun _ _ h => by cases h⟩
theorem notCall_nilck (x : X) : NotCall (.nilck x) := ⟨(fun _ _ h => by cases h), fun _ _ h => by cases h⟩
theorem notCall_bin (op : BinOp) (x y : X) : NotCall (.bin op x y) := ⟨(fun _ _ h => by cases h), fun _ _ h => by cases h⟩
theorem notCall_eqBool (neg : Bool) (x y : X) : NotCall (.eqBool neg x y) := ⟨(fun _ _ h => by cases h), fun _ _ h => by cases h⟩
theorem notCall_eqPtr (neg : Bool) (x y : X) : NotCall (.eqPtr neg x y) := ⟨(fun _ _ h => by cases h), fun _ _ h => by cases h⟩
theorem notCall_eqIf (neg : Bool) (x y : X) : NotCall (.eqIf neg x y) := ⟨(fun _ _ h => by cases h), fun _ _ h => by cases h⟩
theorem notCall_not (x : X) : NotCall (.not x) := ⟨(fun _ _ h => by cases h), fun _ _ h => by cases h⟩
theorem notCall_neg (x : X) : NotCall (.neg x) := ⟨(fun _ _ h => by cases h), fun _ _ h => by cases h⟩
theorem notCall_convI (k : IntKind) (x : X) : NotCall (.convI k x) := ⟨(fun _ _ h => by cases h), fun _ _ h => by cases h⟩
theorem notCall_mkif (t : Nat) (x : X) : NotCall (.mkif t x) := ⟨(fun _ _ h => by cases h), fun _ _ h => by cases h⟩
theorem notCall_mkfn (f : Nat) (caps : List X) : NotCall (.mkfn f caps) := ⟨(fun _ _ h => by cases h), fun _ _ h => by cases h⟩
theorem notCall_slice (sz : Nat) (x : X) (lo hi : Option X) : NotCall (.slice sz x lo hi) := ⟨(fun _ _ h => by cases h), fun _ _ h => by cases h⟩
theorem notCall_sliceS (x : X) (lo hi : Option X) : NotCall (.sliceS x lo hi) := ⟨(fun _ _ h => by cases h), fun _ _ h => by cases h⟩
theorem notCall_cut (sz : Nat) (x : X) (lo hi mx : X) : NotCall (.cut sz x lo hi mx) := ⟨(fun _ _ h => by cases h), fun _ _ h => by cases h⟩
theorem notCall_faddr (x : X) (off : Nat) : NotCall (.faddr x off) := ⟨(fun _ _ h => by cases h), fun _ _ h => by cases h⟩
theorem notCall_field (sz : Option Nat) (x : X) (off : Nat) : NotCall (.field sz x off) := ⟨(fun _ _ h => by cases h), fun _ _ h => by cases h⟩
theorem notCall_iaddr (sz : Nat) (x i : X) : NotCall (.iaddr sz x i) := ⟨(fun _ _ h => by cases h), fun _ _ h => by cases h⟩
theorem notCall_aaddr (sz len : Nat) (x i : X) : NotCall (.aaddr sz len x i) := ⟨(fun _ _ h => by cases h), fun _ _ h => by cases h⟩
theorem notCall_aidx (s : Option Nat) (sz len : Nat) (x i : X) : NotCall (.aidx s sz len x i) := ⟨(fun _ _ h => by cases h), fun _ _ h => by cases h⟩
theorem notCall_index (x i : X) : NotCall (.index x i) := ⟨(fun _ _ h => by cases h), fun _ _ h => by cases h⟩
theorem notCall_extract (x : X) (i : Nat) : NotCall (.extract x i) := ⟨(fun _ _ h => by cases h), fun _ _ h => by cases h⟩
theorem notCall_len (x : X) : NotCall (.len x) := ⟨(fun _ _ h => by cases h), fun _ _ h => by cases h⟩
theorem notCall_lenS (x : X) : NotCall (.lenS x) := ⟨(fun _ _ h => by cases h), fun _ _ h => by cases h⟩
theorem notCall_append (e sz bytes : Nat) (x y : X) : NotCall (.append e sz bytes x y) := ⟨(fun _ _ h => by cases h), fun _ _ h => by cases h⟩
theorem notCall_allocT (t : Nat) (z : List D) : NotCall (.allocT t z) := ⟨(fun _ _ h => by cases h), fun _ _ h => by cases h⟩
theorem notCall_convU (x : X) : NotCall (.convU x) := ⟨(fun _ _ h => by cases h), fun _ _ h => by cases h⟩
theorem notCall_convT (u n : Nat) (x : X) : NotCall (.convT u n x) := ⟨(fun _ _ h => by cases h), fun _ _ h => by cases h⟩
theorem notCall_usd (x : X) : NotCall (.usd x) := ⟨(fun _ _ h => by cases h), fun _ _ h => by cases h⟩
theorem notCall_ustr (e : Nat) (x n : X) : NotCall (.ustr e x n) := ⟨(fun _ _ h => by cases h), fun _ _ h => by cases h⟩
theorem notCall_assertT (t : Nat) (x : X) : NotCall (.assertT t x) := ⟨(fun _ _ h => by cases h), fun _ _ h => by cases h⟩
theorem notCall_sliceA (n : Nat) (x : X) : NotCall (.sliceA n x) := ⟨(fun _ _ h => by cases h), fun _ _ h => by cases h⟩
theorem notCall_eqAgg (b : Bool) (ks : List Nat) (x y : X) : NotCall (.eqAgg b ks x y) := ⟨(fun _ _ h => by cases h), fun _ _ h => by cases h⟩
theorem notCall_bstr (x : X) : NotCall (.bstr x) := ⟨(fun _ _ h => by cases h), fun _ _ h => by cases h⟩
theorem notCall_mm (b : Bool) (x y : X) : NotCall (.mm b x y) := ⟨(fun _ _ h => by cases h), fun _ _ h => by cases h⟩

def condH (c : D) (P Q : Prop) : Prop := match c with
  | .bool b => (b = true → P) ∧ (b = false → Q)
  | _ => False
def exitH (M : Md) (base : HPost) (n id : Nat) (k : List It) (env : Env) (σ : St) (o : Option (List It)) : Prop := match o with
  | some k' => hgo M base n k' env σ
  | none => HX M base (.code (.exit id) :: k) env σ
def bindH (o : Option (D × St × Prop)) (K : D → St → Prop → Prop) : Prop := match o with
  | some (v, σ', p) => K v σ' p
  | none => False
def guardH (c : D) (K : Bool → Prop) (dead : Prop) : Prop := match c with
  | .bool x => K x
  | .dead => dead
  | _ => False
def grpH (o : Option (Nat × D × Prop × Env × List HI)) (K : Nat → D → Prop → Env → List HI → Prop) (other : Prop) : Prop := match o with
  | some (d, v, p, e, l) => K d v p e l
  | none => other

theorem exitH_some {M : Md} {base : HPost} {n id : Nat} {k k' : List It} {env : Env} {σ : St} : exitH M base n id k env σ (some k') = hgo M base n k' env σ := rfl
theorem exitH_none {M : Md} {base : HPost} {n id : Nat} {k : List It} {env : Env} {σ : St} : exitH M base n id k env σ none = HX M base (.code (.exit id) :: k) env σ := rfl
theorem bindH_some {v : D} {σ' : St} {p : Prop} {K : D → St → Prop → Prop} : bindH (some (v, σ', p)) K = K v σ' p := rfl
theorem guardH_bool {x : Bool} {K : Bool → Prop} {dead : Prop} : guardH (.bool x) K dead = K x := rfl
theorem guardH_dead {K : Bool → Prop} {dead : Prop} : guardH .dead K dead = dead := rfl
theorem grpH_some {d : Nat} {v : D} {p : Prop} {e : Env} {l : List HI} {K : Nat → D → Prop → Env → List HI → Prop} {other : Prop} : grpH (some (d, v, p, e, l)) K other = K d v p e l := rfl
theorem grpH_none {K : Nat → D → Prop → Env → List HI → Prop} {other : Prop} : grpH none K other = other := rfl

theorem beq_tf : (true == false) = false := id rfl
theorem beq_ft : (false == true) = false := id rfl
theorem beq_tt : (true == true) = true := id rfl
theorem beq_ff : (false == false) = true := id rfl
def gdE (env : Env) : Option (Nat × Bool) → D
  | none => .nilp
  | some (t, _) => look env t
def gdW : Option (Nat × Bool) → Bool
  | none => true
  | some (_, w) => w
def gdK (d : D) (w : Bool) (P Q : Prop) : Prop := condJ (gdV d w) P Q
theorem gdE_none {env : Env} : gdE env none = .nilp := id rfl
theorem gdE_some {env : Env} {t : Nat} {w : Bool} : gdE env (some (t, w)) = look env t := id rfl
theorem gdW_none : gdW none = true := id rfl
theorem gdW_some {t : Nat} {w : Bool} : gdW (some (t, w)) = w := id rfl
theorem gdK_none {w : Bool} {P Q : Prop} : gdK .nilp w P Q = Q := by cases w <;> simp [gdK, gdV, condJ]
theorem gdK_t {x : Bool} {P Q : Prop} : gdK (.bool x) true P Q = condJ x Q P := by cases x <;> simp [gdK, gdV, condJ]
theorem gdK_f {x : Bool} {P Q : Prop} : gdK (.bool x) false P Q = condJ x P Q := id rfl
theorem gdK_dead {w : Bool} {P Q : Prop} : gdK .dead w P Q = P := by cases w <;> simp [gdK, gdV, condJ]
@[congr] theorem gdK_congr {d d' : D} {w w' : Bool} {P Q : Prop} (h : d = d') (h2 : w = w') : gdK d w P Q = gdK d' w' P Q := by rw [h, h2]
theorem gdK_B {env : Env} {g : Option (Nat × Bool)} {P Q : Prop} : condJ (gdB env g) P Q = gdK (gdE env g) (gdW g) P Q := by
  cases g with
  | none => simp [gdB, gdE, gdW, gdK, gdV, condJ]
  | some tw => rfl
theorem condH_step {b : Bool} {P Q : Prop} : condH (.bool b) P Q = condJ b P Q := id rfl
theorem condJ_true {P Q : Prop} : condJ true P Q = P := by simp [condJ]
theorem condJ_false {P Q : Prop} : condJ false P Q = Q := by simp [condJ]
theorem condJ_bool {b : Bool} {P Q : Prop} : condJ b P Q = ((b = true → P) ∧ (b = false → Q)) := id rfl
@[congr] theorem condJ_congr {b b' : Bool} {P Q : Prop} (h : b = b') : condJ b P Q = condJ b' P Q := by rw [h]
@[congr] theorem condH_congr {c c' : D} {P Q : Prop} (h : c = c') : condH c P Q = condH c' P Q := by rw [h]
@[congr] theorem exitH_congr {M : Md} {base : HPost} {n id : Nat} {k : List It} {env : Env} {σ : St} {o o' : Option (List It)} (h : o = o') : exitH M base n id k env σ o = exitH M base n id k env σ o' := by rw [h]
@[congr] theorem bindH_congr {o o' : Option (D × St × Prop)} {K : D → St → Prop → Prop} (h : o = o') : bindH o K = bindH o' K := by rw [h]
@[congr] theorem guardH_congr {c c' : D} {K : Bool → Prop} {dead : Prop} (h : c = c') : guardH c K dead = guardH c' K dead := by rw [h]
@[congr] theorem grpH_congr {o o' : Option (Nat × D × Prop × Env × List HI)} {K : Nat → D → Prop → Env → List HI → Prop} {other : Prop} (h : o = o') : grpH o K other = grpH o' K other := by rw [h]

section
variable {M : Md} {base : HPost} {n : Nat} {k : List It} {env : Env} {σ : St}
theorem hgo_zero : hgo M base 0 k env σ = HX M base k env σ := rfl
theorem hgo_nil (hn : n ≠ 0) : hgo M base n [] env σ = base .normal env σ := by
  cases n with | zero => exact absurd rfl hn | succ n => rfl
theorem hgo_inBlock (hn : n ≠ 0) {id : Nat} : hgo M base n (.inBlock id :: k) env σ = hgo M base (n - 1) k env σ := by
  cases n with | zero => exact absurd rfl hn | succ n => rfl
theorem hgo_stop (hn : n ≠ 0) {I : Env → St → Prop} : hgo M base n (.stop I :: k) env σ = I env σ := by
  cases n with | zero => exact absurd rfl hn | succ n => rfl
theorem hgo_skip (hn : n ≠ 0) : hgo M base n (.code .skip :: k) env σ = hgo M base (n - 1) k env σ := by
  cases n with | zero => exact absurd rfl hn | succ n => rfl
theorem hgo_ret (hn : n ≠ 0) : hgo M base n (.code .ret :: k) env σ = base .ret env σ := by
  cases n with | zero => exact absurd rfl hn | succ n => rfl
theorem hgo_seq (hn : n ≠ 0) {x y : HC} : hgo M base n (.code (.seq x y) :: k) env σ = hgo M base (n - 1) (.code x :: .code y :: k) env σ := by
  cases n with | zero => exact absurd rfl hn | succ n => rfl
theorem hgo_block (hn : n ≠ 0) {id : Nat} {x : HC} : hgo M base n (.code (.block id x) :: k) env σ = hgo M base (n - 1) (.code x :: .inBlock id :: k) env σ := by
  cases n with | zero => exact absurd rfl hn | succ n => rfl
theorem hgo_ops (hn : n ≠ 0) {l : List HI} : hgo M base n (.code (.ops l) :: k) env σ = hgo M base (n - 1) (.ops l :: k) env σ := by
  cases n with | zero => exact absurd rfl hn | succ n => rfl
theorem hgo_cond (hn : n ≠ 0) {x : X} {p q : HC} : hgo M base n (.code (.cond x p q) :: k) env σ = condH (evX σ env x) (hgo M base (n - 1) (.code p :: k) env σ) (hgo M base (n - 1) (.code q :: k) env σ) := by
  cases n with | zero => exact absurd rfl hn | succ n => rfl
theorem hgo_exit (hn : n ≠ 0) {id : Nat} : hgo M base n (.code (.exit id) :: k) env σ = exitH M base (n - 1) id k env σ (hexit id k) := by
  cases n with | zero => exact absurd rfl hn | succ n => rfl
theorem hgo_loop (hn : n ≠ 0) {c : HC} : hgo M base n (.code (.loop c) :: k) env σ = HX M base (.code (.loop c) :: k) env σ := by
  cases n with | zero => exact absurd rfl hn | succ n => rfl
theorem hgo_draw (hn : n ≠ 0) {l : List DI} : hgo M base n (.code (.draw l) :: k) env σ = HX M base (.code (.draw l) :: k) env σ := by
  cases n with | zero => exact absurd rfl hn | succ n => rfl
theorem hgo_range (hn : n ≠ 0) {f : X} {ps : List Nat} {a b : HC} : hgo M base n (.code (.range f ps a b) :: k) env σ = HX M base (.code (.range f ps a b) :: k) env σ := by
  cases n with | zero => exact absurd rfl hn | succ n => rfl
theorem hgo_ops_nil (hn : n ≠ 0) : hgo M base n (.ops [] :: k) env σ = hgo M base (n - 1) k env σ := by
  cases n with | zero => exact absurd rfl hn | succ n => rfl
theorem hgo_kill (hn : n ≠ 0) {d : Option Nat} {g : Option (Nat × Bool)} {ts : List Nat} {l : List HI} : hgo M base n (.ops (⟨d, g, .kill ts⟩ :: l) :: k) env σ = hgo M base (n - 1) (.ops l :: k) (killsE env ts) σ := by
  cases n with | zero => exact absurd rfl hn | succ n => rfl
theorem hgo_call (hn : n ≠ 0) {d : Option Nat} {g : Option (Nat × Bool)} {f : X} {args : List X} {l : List HI} : hgo M base n (.ops (⟨d, g, .call f args⟩ :: l) :: k) env σ = gdK (gdE env g) (gdW g) (hgo M base (n - 1) (.ops l :: k) (putO env d .dead) σ) (HX M base (.ops (⟨d, g, .call f args⟩ :: l) :: k) env σ) := by
  rw [← gdK_B]
  cases n with | zero => exact absurd rfl hn | succ n => rfl
theorem hgo_eqSl (hn : n ≠ 0) {d : Option Nat} {g : Option (Nat × Bool)} {neg : Bool} {x : X} {l : List HI} : hgo M base n (.ops (⟨d, g, .eqSl neg x⟩ :: l) :: k) env σ = gdK (gdE env g) (gdW g) (hgo M base (n - 1) (.ops l :: k) (putO env d .dead) σ) (HX M base (.ops (⟨d, g, .eqSl neg x⟩ :: l) :: k) env σ) := by
  rw [← gdK_B]
  cases n with | zero => exact absurd rfl hn | succ n => rfl
theorem hgo_refuse (hn : n ≠ 0) : hgo M base n (.code .refuse :: k) env σ = HX M base (.code .refuse :: k) env σ := by
  cases n with | zero => exact absurd rfl hn | succ n => rfl
theorem hgo_op (hn : n ≠ 0) {d : Option Nat} {op : HO} {l : List HI} (hk : NotKill op) (hc : NotCall op) : hgo M base n (.ops (⟨d, none, op⟩ :: l) :: k) env σ =
    bindH (hstep σ (evX σ env) op) fun v σ' p => p ∧ hgo M base (n - 1) (.ops l :: k) (putO env d v) σ' := by
  cases n with
  | zero => exact absurd rfl hn
  | succ n =>
    cases op <;> first
      | rfl
      | exact absurd rfl (hc.h.1 _ _)
      | exact absurd rfl (hc.h.2 _ _)
      | exact absurd hk.h (by simp [isKill])
theorem hgo_gop (hn : n ≠ 0) {d : Option Nat} {t : Nat} {want : Bool} {op : HO} {l : List HI} (hk : NotKill op) (hc : NotCall op) : hgo M base n (.ops (⟨d, some (t, want), op⟩ :: l) :: k) env σ =
    guardH (look env t) (fun x => grpH (hgrp σ env t want x (⟨d, some (t, want), op⟩ :: l)) (fun d' v p e l2 => (x = want → p) ∧ hgo M base (n - 1) (.ops l2 :: k) (putE e d' v) σ) (hone σ env (some (t, want)) op fun v σ' => hgo M base (n - 1) (.ops l :: k) (putO env d v) σ'))
      (hgo M base (n - 1) (.ops l :: k) (putO env d .dead) σ) := by
  cases n with
  | zero => exact absurd rfl hn
  | succ n =>
    cases op <;> first
      | rfl
      | exact absurd rfl (hc.h.1 _ _)
      | exact absurd rfl (hc.h.2 _ _)
      | exact absurd hk.h (by simp [isKill])
end

@[congr] theorem hgo_congr {M : Md} {base : HPost} {n n' : Nat} {k : List It} {env env' : Env} {σ σ' : St} (h0 : n = n') (h1 : env = env') (h2 : σ = σ') : hgo M base n k env σ = hgo M base n' k env' σ' := by rw [h0, h1, h2]
@[congr] theorem hgrp_congr {σ σ' : St} {env env' : Env} {t : Nat} {w x x' : Bool} {l : List HI} (h1 : σ = σ') (h2 : env = env') (h3 : x = x') : hgrp σ env t w x l = hgrp σ' env' t w x' l := by rw [h1, h2, h3]
@[congr] theorem runG_congr {σ σ' : St} {env env' : Env} {n n' t : Nat} {w : Bool} {dd dd' : List Nat} {l : List HI} (h0 : n = n') (h3 : dd = dd') (h1 : σ = σ') (h2 : env = env') : runG σ n t w dd l env = runG σ' n' t w dd' l env' := by rw [h0, h3, h1, h2]
@[congr] theorem HX_congr {M : Md} {base : HPost} {k : List It} {env env' : Env} {σ σ' : St} (h1 : env = env') (h2 : σ = σ') : HX M base k env σ = HX M base k env' σ' := by rw [h1, h2]
@[congr] theorem hone_congr {σ σ' : St} {env env' : Env} {g : Option (Nat × Bool)} {op : HO} {K : D → St → Prop} (h1 : σ = σ') (h2 : env = env') : hone σ env g op K = hone σ' env' g op K := by rw [h1, h2]
@[congr] theorem hstep_congr {σ σ' : St} {ev : X → D} {op : HO} (h1 : σ = σ') : hstep σ ev op = hstep σ' ev op := by rw [h1]

theorem ite_bool (c : Prop) [Decidable c] (a b : Bool) : (if c then D.bool a else D.bool b) = D.bool (if c then a else b) := by split <;> rfl
theorem ite_int (c : Prop) [Decidable c] (k : IntKind) (a b : Int) : (if c then D.int k a else D.int k b) = D.int k (if c then a else b) := by split <;> rfl
theorem ite_str (c : Prop) [Decidable c] (a b : ByteArray) : (if c then D.str a else D.str b) = D.str (if c then a else b) := by split <;> rfl

structure Sub (σ0 σ : St) : Prop where
  next : σ0.next ≤ σ.next
  obj : ∀ id o, σ0.obj id = some o → σ.obj id = some o
  glob : σ0.glob = σ.glob

theorem Sub.refl (σ : St) : Sub σ σ := ⟨Nat.le_refl _, fun _ _ h => h, rfl⟩
theorem Sub.new {σ0 σ : St} (hw : σ0.wf) (h : Sub σ0 σ) (o : Ob) : Sub σ0 (σ.new o) :=
  ⟨Nat.le_succ_of_le h.next, fun id k hk => by
    have h1 := (hw.obj id k hk).1
    have h2 := h.next
    rw [St.new_ne σ o (by omega)]
    exact h.obj id k hk, h.glob⟩
theorem Sub.put {σ0 σ : St} (hw : σ0.wf) (h : Sub σ0 σ) {id : Nat} (hi : σ0.next ≤ id) (o : Ob) : Sub σ0 (σ.put id o) :=
  ⟨h.next, fun j k hk => by
    have h1 := (hw.obj j k hk).1
    rw [St.put_ne σ o (by omega)]
    exact h.obj j k hk, h.glob⟩
theorem Sub.del {σ0 σ : St} (hw : σ0.wf) (h : Sub σ0 σ) {id : Nat} (hi : σ0.next ≤ id) : Sub σ0 (σ.del id) :=
  ⟨h.next, fun j k hk => by
    have h1 := (hw.obj j k hk).1
    simp only [St.del]
    rw [if_neg (by omega)]
    exact h.obj j k hk, h.glob⟩
theorem Sub.trans {a b c : St} (h : Sub a b) (h' : Sub b c) : Sub a c := ⟨Nat.le_trans h.next h'.next, fun i o h1 => h'.obj i o (h.obj i o h1), h.glob.trans h'.glob⟩

theorem fpost_pure {n0 : Nat} {res : List HR} {Q : D → St → Prop} {e : Exit} {env : Env} {σ σ0 : St} {ds : List D} {p : Prop} (he : e = .normal ∨ e = .ret) (hn : n0 ≤ σ0.next) (hw : σ0.wf) (hs : Sub σ0 σ)
    (hr : resD σ env res = some (ds, p)) (hp : p) (hd : (tupD ds).lt σ0.next) (hq : Q (tupD ds) σ0) : FPost n0 res Q e env σ :=
  ⟨he, fun _ _ _ => ⟨ds, p, fun _ => none, false, σ0, hr, hp, (fun _ _ h => by cases h), by rw [frzD_id]; exact hd, ⟨hn, hs.next, hw, hs.obj, hs.glob, fun _ h => by cases h⟩, _, Wk.refl _, by rw [frzD_id]; exact hq⟩⟩

theorem fpost_wk {n0 : Nat} {res : List HR} {Q : D → St → Prop} {e : Exit} {env : Env} {σ σ0 : St} {ds : List D} {d : D} {p : Prop} (hwk : Wk (tupD ds) d) (he : e = .normal ∨ e = .ret) (hn : n0 ≤ σ0.next) (hw : σ0.wf) (hs : Sub σ0 σ)
    (hr : resD σ env res = some (ds, p)) (hp : p) (hd : (tupD ds).lt σ0.next) (hq : Q d σ0) : FPost n0 res Q e env σ :=
  ⟨he, fun _ _ _ => ⟨ds, p, fun _ => none, false, σ0, hr, hp, (fun _ _ h => by cases h), by rw [frzD_id]; exact hd, ⟨hn, hs.next, hw, hs.obj, hs.glob, fun _ h => by cases h⟩, d, by rw [frzD_id]; exact hwk, hq⟩⟩

theorem fpost_strip {n0 : Nat} {res : List HR} {Q : D → St → Prop} {e : Exit} {env : Env} {σ σ0 : St} {ds : List D} {d : D} {p : Prop} (hwk : Wk (frzD (fun _ => none) true (tupD ds)) d) (he : e = .normal ∨ e = .ret) (hn : n0 ≤ σ0.next) (hw : σ0.wf) (hs : Sub σ0 σ)
    (hr : resD σ env res = some (ds, p)) (hp : p) (hd : (frzD (fun _ => none) true (tupD ds)).lt σ0.next) (hq : Q d σ0) : FPost n0 res Q e env σ :=
  ⟨he, fun _ _ _ => ⟨ds, p, fun _ => none, true, σ0, hr, hp, (fun _ _ h => by cases h), hd, ⟨hn, hs.next, hw, hs.obj, hs.glob, fun _ h => by cases h⟩, d, hwk, hq⟩⟩

theorem fpost_keep {n0 : Nat} {res : List HR} {Q : D → St → Prop} {e : Exit} {env : Env} {σ : St} {ds : List D} {p : Prop} (he : e = .normal ∨ e = .ret)
    (hr : resD σ env res = some (ds, p)) (hp : p) (hd : (∀ t, (look env t).lt σ.next) → (tupD ds).lt σ.next) (hq : σ.wf → Q (tupD ds) σ) : FPost n0 res Q e env σ :=
  ⟨he, fun hw hl hn => ⟨ds, p, fun _ => none, false, σ, hr, hp, (fun _ _ h => by cases h), by rw [frzD_id]; exact hd hl, ⟨hn, Nat.le_refl _, hw, fun _ _ h => h, rfl, fun _ h => by cases h⟩, _, Wk.refl _, by rw [frzD_id]; exact hq hw⟩⟩

def lookF : List (Nat × List D) → Nat → Option (List D)
  | [], _ => none
  | (k, cs) :: r, id => if id = k then some cs else lookF r id

theorem lookF_mem : ∀ {F : List (Nat × List D)} {id : Nat} {cs : List D}, lookF F id = some cs → (id, cs) ∈ F
  | [], _, _, h => by cases h
  | (k, c) :: r, id, cs, h => by
    simp only [lookF] at h
    split at h
    · rename_i e
      injection h with h
      rw [e, h]
      exact List.mem_cons_self
    · exact List.mem_cons_of_mem _ (lookF_mem h)

theorem fpost_frz {n0 : Nat} {res : List HR} {Q : D → St → Prop} {e : Exit} {env : Env} {σ σ0 : St} {ds : List D} {d : D} {p : Prop} (F : List (Nat × List D)) (st : Bool) (he : e = .normal ∨ e = .ret) (hn : n0 ≤ σ0.next) (hw : σ0.wf) (hs : Sub σ0 σ)
    (hr : resD σ env res = some (ds, p)) (hp : p) (hF : ∀ q ∈ F, σ0.next ≤ q.1 ∧ σ.obj q.1 = some (.box q.2)) (hfd : frzD (lookF F) st (tupD ds) = d) (hd : d.lt σ0.next) (hq : Q d σ0) : FPost n0 res Q e env σ :=
  ⟨he, fun _ _ _ => ⟨ds, p, lookF F, st, σ0, hr, hp, fun id cs h => hF _ (lookF_mem h), by rw [hfd]; exact hd, ⟨hn, hs.next, hw, hs.obj, hs.glob, fun _ h => by cases h⟩, _, Wk.refl _, by rw [hfd]; exact hq⟩⟩

theorem cellsD_bool (b : Bool) : cellsD (.bool b) = some [.bool b] := rfl
theorem cellsD_int (k : IntKind) (n : Int) : cellsD (.int k n) = some [.int k n] := rfl
theorem cellsD_str (s : ByteArray) : cellsD (.str s) = some [.str s] := rfl
theorem cellsD_nilp  : cellsD (.nilp ) = some [.nilp ] := rfl
theorem cellsD_ptr (i o : Nat) : cellsD (.ptr i o) = some [.ptr i o] := rfl
theorem cellsD_eptr (cs : List D) (o : Nat) : cellsD (.eptr cs o) = some [.eptr cs o] := rfl
theorem cellsD_slice (o : Own) (sz : Nat) (xs : List (List D)) : cellsD (.slice o sz xs) = some [.slice o sz xs] := rfl
theorem cellsD_func (f : Nat) (cs : List D) : cellsD (.func f cs) = some [.func f cs] := rfl
theorem cellsD_yld (i : Nat) : cellsD (.yld i) = some [.yld i] := rfl
theorem cellsD_nilf  : cellsD (.nilf ) = some [.nilf ] := rfl
theorem cellsD_iface (t : Nat) (d : D) : cellsD (.iface t d) = some [.iface t d] := rfl
theorem cellsD_nili  : cellsD (.nili ) = some [.nili ] := rfl
theorem cellsD_vec (i k : Nat) : cellsD (.vec i k) = some [.vec i k] := rfl
theorem cellsD_sptr (t : Nat) (xs : List (List D)) : cellsD (.sptr t xs) = some [.sptr t xs] := rfl
theorem cellsD_vptr (i k sz j o : Nat) : cellsD (.vptr i k sz j o) = some [.vptr i k sz j o] := rfl
theorem cellsD_agg (cs : List D) : cellsD (.agg cs) = some cs := rfl

theorem hx_eqSl {M : Md} {base : HPost} {k : List It} {env : Env} {σ : St} {d : Option Nat} {neg : Bool} {x : X} {l : List HI} {ow : Own} {sz : Nat} {xs : List (List D)} (hx : evX σ env x = .slice ow sz xs)
    (hn : ∀ b : Bool, (b = true → xs = []) → HX M base (.ops l :: k) (putO env d (.bool (neg ^^ b))) σ) : HX M base (.ops (⟨d, none, .eqSl neg x⟩ :: l) :: k) env σ := by
  intro ops i hc g w a hr
  obtain ⟨o, hlt, ho, hco, hcs⟩ := cmpOps_cons rfl hc
  obtain ⟨h1, h2, h3, h4⟩ := cmpOp_parts hco
  have h4' : cmpHV M.P o (.eqSl neg x) = true := by
    simp only at h4
    rcases Bool.or_eq_true _ _ |>.mp h4 with h | h
    · exact h
    · simp [cmpHS] at h
  rw [range'_step hlt]
  simp only [wpOpsIn, ho]
  rw [if_pos (wanted_of hr.er h3 rfl)]
  obtain ⟨b, hb, hrun⟩ := eqSl_run hr.rel hr.er h4' hx
  refine wpIn_value (not_defer hco) (.inl hrun) ?_
  rw [h1]
  exact hn b hb ops (i + 1) hcs g w _ (hr.put (E.refl g w hr.rel.gw) hr.rel (by simp only [R]) h2)

theorem St.obj_new (σ : St) (o : Ob) (j : Nat) : (σ.new o).obj j = if j = σ.next then some o else σ.obj j := rfl
theorem St.obj_put (σ : St) (id : Nat) (o : Ob) (j : Nat) : (σ.put id o).obj j = if j = id then some o else σ.obj j := rfl
theorem St.obj_del (σ : St) (id : Nat) (j : Nat) : (σ.del id).obj j = if j = id then none else σ.obj j := rfl
theorem St.next_new (σ : St) (o : Ob) : (σ.new o).next = σ.next + 1 := rfl
theorem St.next_put (σ : St) (id : Nat) (o : Ob) : (σ.put id o).next = σ.next := rfl

end Go.Hl
set_option linter.unusedSectionVars false
set_option linter.unusedVariables false
namespace Go.Hl
open Go

section
variable {M : Md} {base : HPost} {k : List It} {env : Env} {σ : St}

theorem hx_know {i : It} (h : σ.wf → (∀ t, (look env t).lt σ.next) → M.gS.next ≤ σ.next → HX M base (i :: k) env σ) (hi : ∀ I, i ≠ .stop I) (hb : ∀ id, i ≠ .inBlock id) : HX M base (i :: k) env σ := by
  cases i with
  | code c => exact fun cc hc g w a hr => h hr.rel.wf (fun t => by rw [hr.rel.next]; exact R_lt hr.rel.gw _ _ (hr.er t)) (by rw [hr.rel.next]; exact hr.e.next) cc hc g w a hr
  | ops l => exact fun ops i hc g w a hr => h hr.rel.wf (fun t => by rw [hr.rel.next]; exact R_lt hr.rel.gw _ _ (hr.er t)) (by rw [hr.rel.next]; exact hr.e.next) ops i hc g w a hr
  | stop I => exact absurd rfl (hi I)
  | inBlock id => exact absurd rfl (hb id)

theorem hx_know_ops {l : List HI} (h : σ.wf → (∀ t, (look env t).lt σ.next) → M.gS.next ≤ σ.next → HX M base (.ops l :: k) env σ) : HX M base (.ops l :: k) env σ :=
  hx_know h (fun _ e => by cases e) (fun _ e => by cases e)
theorem hx_know_code {c : HC} (h : σ.wf → (∀ t, (look env t).lt σ.next) → M.gS.next ≤ σ.next → HX M base (.code c :: k) env σ) : HX M base (.code c :: k) env σ :=
  hx_know h (fun _ e => by cases e) (fun _ e => by cases e)

theorem hx_own {i : It} {t sz : Nat} {xs : List (List D)} (te : Nat) (he : look env t = .slice .full sz xs) (h : HX M base (i :: k) (putE env t (.slice (.tok σ.next) sz xs)) (σ.new (.tokF te xs.length)))
    (hi : ∀ I, i ≠ .stop I) (hb : ∀ id, i ≠ .inBlock id) : HX M base (i :: k) env σ := by
  have step : ∀ {g w a}, Rl M g w σ env a → Rl M (g.new (.full xs.length te false)) w (σ.new (.tokF te xs.length)) (putE env t (.slice (.tok σ.next) sz xs)) a := by
    intro g w a hr
    obtain ⟨hE, hR⟩ := own_step hr.rel xs.length te
    have h0 := hr.goes hE hR
    refine ⟨h0.gs, h0.e, h0.rel, fun s => ?_, h0.nt, h0.defs, h0.rnd⟩
    rw [look_putE]
    split
    · rename_i e
      subst e
      have := hr.er s
      rw [he] at this
      have h2 := R.mono hE hr.rel.gw _ _ this
      simp only [R] at h2 ⊢
      obtain ⟨A, cap, h3, h4, h5, h6, h7⟩ := h2
      refine ⟨A, cap, h3, h4, h5, ⟨by rw [hr.rel.next]; exact Nat.lt_succ_self _, fun k hk => ?_⟩, h7⟩
      rw [hr.rel.next, G.new_same] at hk
      injection hk with hk
      subst hk
      exact ⟨Nat.le_refl _, fun _ => ⟨h6.1, (fun h => by cases h), h6.2⟩⟩
    · exact h0.er s
  cases i with
  | code c => exact fun cc hc g w a hr => h cc hc _ w a (step hr)
  | ops l => exact fun ops i hc g w a hr => h ops i hc _ w a (step hr)
  | stop I => exact absurd rfl (hi I)
  | inBlock id => exact absurd rfl (hb id)

theorem hx_full_box {i : It} {id j sz : Nat} {cs : List D} {ot : Option Nat} (te sz' : Nat) (ho : σ.obj id = some (.bx ot cs)) (hj : cs[j]? = some (.slice .nil sz []))
    (h : HX M base (i :: k) env ((σ.new (.tok te 0)).put id (.bx ot (cs.set j (.slice (.tok σ.next) sz' []))))) (hi : ∀ I, i ≠ .stop I) (hb : ∀ id, i ≠ .inBlock id) : HX M base (i :: k) env σ := by
  have step : ∀ {g w a}, Rl M g w σ env a → Rl M (g.new (.full 0 te true)) w ((σ.new (.tok te 0)).put id (.bx ot (cs.set j (.slice (.tok σ.next) sz' [])))) env a := by
    intro g w a hr
    obtain ⟨hE, hR⟩ := full_step hr.rel te
    have h0 := hr.goes hE hR
    obtain ⟨b, c, e, ha, hbk, hc, hot⟩ := hr.rel.obj id _ ho
    have hidlt := hr.rel.gw.lt id _ ha
    refine ⟨h0.gs, h0.e, ⟨hR.gw, hR.next, fun id' o ho' => ?_, hR.glob⟩, h0.er, h0.nt, h0.defs, h0.rnd⟩
    by_cases e' : id' = id
    · subst e'
      rw [St.put_same] at ho'
      injection ho' with ho'
      subst ho'
      refine ⟨b, c, e, by rw [G.new_ne _ _ (by omega)]; exact ha, hbk, RC.of_get (by rw [List.length_set]; exact hc.length) fun m d u hd hu => ?_, hot⟩
      rw [List.getElem?_set] at hd
      split at hd
      · rename_i e1
        subst e1
        split at hd; rotate_left; · cases hd
        injection hd with hd
        subst hd
        obtain ⟨u', hu', h1, h2⟩ := hc.get hj
        rw [hu] at hu'
        injection hu' with hu'
        subst hu'
        refine ⟨h1, ?_⟩
        have h2 := R.mono hE hr.rel.gw _ _ (R_size (sz' := sz') (fun _ h => by cases h) h2)
        simp only [R] at h2 ⊢
        obtain ⟨A, cap, h3, h4, h5, h6, h7⟩ := h2
        refine ⟨A, cap, h3, h4, h5, ⟨by rw [hr.rel.next]; exact Nat.lt_succ_self _, fun k hk => ?_⟩, h7⟩
        rw [hr.rel.next, G.new_same] at hk
        injection hk with hk
        subst hk
        exact ⟨Nat.le_refl _, fun _ => ⟨by rw [show A = none from h6] at h5; simp only [SliceAt] at h5; rw [h5.2]; rfl, fun _ _ => h6, fun a ha => by rw [h6] at ha; cases ha⟩⟩
      · obtain ⟨u', hu', h1, h2⟩ := hc.get hd
        rw [hu] at hu'
        injection hu' with hu'
        subst hu'
        exact ⟨h1, R.mono hE hr.rel.gw _ _ h2⟩
    · rw [St.put_ne _ _ e'] at ho'
      exact hR.obj id' o ho'
  cases i with
  | code c => exact fun cc hc g w a hr => h cc hc _ w a (step hr)
  | ops l => exact fun ops i hc g w a hr => h ops i hc _ w a (step hr)
  | stop I => exact absurd rfl (hi I)
  | inBlock id => exact absurd rfl (hb id)

def allE (n : Nat) (env : Env) : Env → Prop
  | [] => True
  | (t, d) :: r => (d = look env t ∧ d.lt n) ∧ allE n env r

theorem allE.mem {n : Nat} {env : Env} : ∀ {env' : Env}, allE n env env' → ∀ p ∈ env', p.2 = look env p.1 ∧ p.2.lt n
  | [], _, p, hp => by cases hp
  | (t, d) :: r, h, p, hp => by
    rcases List.mem_cons.1 hp with rfl | hp
    · exact h.1
    · exact allE.mem h.2 p hp

theorem Drop.all {n0 : Nat} {env' : Env} (hw : σ.wf) (hn : n0 ≤ σ.next) (he : allE σ.next env env') : Drop n0 env' σ env σ :=
  ⟨hn, Nat.le_refl _, hw, fun _ _ h => h, rfl, fun p hp => ⟨.inl (he.mem p hp).1, (he.mem p hp).2⟩⟩
theorem Drop.allS {n0 : Nat} {env' : Env} {σ0 : St} (hs : Sub σ0 σ) (hw : σ0.wf) (hn : n0 ≤ σ0.next) (he : allE σ0.next env env') : Drop n0 env' σ0 env σ :=
  ⟨hn, hs.next, hw, hs.obj, hs.glob, fun p hp => ⟨.inl (he.mem p hp).1, (he.mem p hp).2⟩⟩

end

theorem Own.lt_mono {n m : Nat} (h : n ≤ m) {o : Own} (ho : o.lt n) : o.lt m := by
  cases o <;> simp only [Own.lt] at ho ⊢
  omega

mutual
theorem D.lt_mono {n m : Nat} (h : n ≤ m) : ∀ (d : D), d.lt n → d.lt m
  | .ptr id off, hd => by simp only [D.lt] at hd ⊢; omega
  | .slice o sz xs, hd => by simp only [D.lt] at hd ⊢; exact ⟨Own.lt_mono h hd.1, ltX_mono h xs hd.2⟩
  | .func f caps, hd => by simp only [D.lt] at hd ⊢; exact ltL_mono h caps hd
  | .agg cs, hd => by simp only [D.lt] at hd ⊢; exact ltL_mono h cs hd
  | .tuple ds, hd => by simp only [D.lt] at hd ⊢; exact ltL_mono h ds hd
  | .iface t d, hd => by simp only [D.lt] at hd ⊢; exact D.lt_mono h d hd
  | .eptr cs off, hd => by simp only [D.lt] at hd ⊢; exact ltL_mono h cs hd
  | .undef, hd => by simp only [D.lt]
  | .dead, hd => by simp only [D.lt]
  | .bool b, hd => by simp only [D.lt]
  | .int k n, hd => by simp only [D.lt]
  | .str s, hd => by simp only [D.lt]
  | .nilp, hd => by simp only [D.lt]
  | .yld id, hd => by simp only [D.lt] at hd ⊢; omega
  | .nilf, hd => by simp only [D.lt]
  | .nili, hd => by simp only [D.lt]
  | .vec id k, hd => by simp only [D.lt] at hd ⊢; omega
  | .vptr id k sz i o, hd => by simp only [D.lt] at hd ⊢; omega
  | .sptr t xs, hd => by simp only [D.lt] at hd ⊢; exact ⟨by omega, ltX_mono h xs hd.2⟩
theorem ltL_mono {n m : Nat} (h : n ≤ m) : ∀ (ds : List D), ltL n ds → ltL m ds
  | [], hd => hd
  | d :: ds, hd => by simp only [ltL] at hd ⊢; exact ⟨D.lt_mono h d hd.1, ltL_mono h ds hd.2⟩
theorem ltX_mono {n m : Nat} (h : n ≤ m) : ∀ (xs : List (List D)), ltX n xs → ltX m xs
  | [], hd => hd
  | x :: xs, hd => by simp only [ltX] at hd ⊢; exact ⟨ltL_mono h x hd.1, ltX_mono h xs hd.2⟩
end

theorem Ob.lt_mono {n m : Nat} (h : n ≤ m) {o : Ob} (ho : o.lt n) : o.lt m := by
  cases o with
  | bx t cs => exact ltL_mono h cs ho
  | tok e n => exact trivial
  | tokF e n => exact trivial
  | vec k sz xs => exact ltX_mono h xs ho
  | loop nt env ps asg body st => exact fun t => D.lt_mono h _ (ho t)

theorem St.ext' {a b : St} (h1 : ∀ id, a.obj id = b.obj id) (h2 : a.glob = b.glob) (h3 : a.next = b.next) : a = b := by
  cases a; cases b
  simp only at h1 h2 h3
  subst h2 h3
  congr 1
  exact funext h1

def St.newAt (σ : St) (id : Nat) (o : Ob) : St := { obj := fun j => if j = id then some o else σ.obj j, glob := σ.glob, next := id + 1 }

theorem St.obj_newAt (σ : St) (id : Nat) (o : Ob) (j : Nat) : (σ.newAt id o).obj j = if j = id then some o else σ.obj j := rfl
theorem St.next_newAt (σ : St) (id : Nat) (o : Ob) : (σ.newAt id o).next = id + 1 := rfl
theorem St.obj_bump (σ : St) (j : Nat) : σ.bump.obj j = σ.obj j := rfl
theorem St.next_bump (σ : St) : σ.bump.next = σ.next + 1 := rfl

theorem St.wf.new {σ : St} (h : σ.wf) {o : Ob} (ho : o.lt (σ.next + 1)) : (σ.new o).wf where
  obj := fun id k hk => by
    simp only [St.obj_new] at hk
    split at hk
    · rename_i e
      injection hk with hk
      subst hk
      exact ⟨by rw [e]; exact Nat.lt_succ_self _, ho⟩
    · have := h.obj id k hk
      exact ⟨Nat.lt_succ_of_lt this.1, Ob.lt_mono (Nat.le_succ _) this.2⟩
  glob := fun k cs hc => ltL_mono (Nat.le_succ _) cs (h.glob k cs hc)
theorem St.wf.new2 {σ : St} (h : σ.wf) {o o2 : Ob} (ho : o.lt (σ.next + 2)) (ho2 : o2.lt (σ.next + 2)) : ((σ.new o).new o2).wf where
  obj := fun id k hk => by
    by_cases q1 : id = (σ.new o).next
    · subst q1
      rw [St.new_same] at hk
      injection hk with hk
      subst hk
      exact ⟨Nat.lt_succ_self _, ho2⟩
    · rw [St.new_ne _ _ q1] at hk
      by_cases q2 : id = σ.next
      · subst q2
        rw [St.new_same] at hk
        injection hk with hk
        subst hk
        exact ⟨by simp only [St.next_new]; omega, ho⟩
      · rw [St.new_ne _ _ q2] at hk
        have := h.obj id k hk
        exact ⟨by simp only [St.next_new]; omega, Ob.lt_mono (by simp only [St.next_new]; omega) this.2⟩
  glob := fun k cs hc => ltL_mono (by simp only [St.next_new]; omega) cs (h.glob k cs hc)
theorem St.wf.newAt {σ : St} (h : σ.wf) {id : Nat} {o : Ob} (hid : σ.next ≤ id) (ho : o.lt (id + 1)) : (σ.newAt id o).wf where
  obj := fun j k hk => by
    simp only [St.obj_newAt] at hk
    split at hk
    · rename_i e
      injection hk with hk
      subst hk
      exact ⟨by rw [e]; exact Nat.lt_succ_self _, ho⟩
    · have := h.obj j k hk
      exact ⟨by rw [St.next_newAt]; omega, Ob.lt_mono (by rw [St.next_newAt]; omega) this.2⟩
  glob := fun k cs hc => ltL_mono (by rw [St.next_newAt]; omega) cs (h.glob k cs hc)
theorem St.wf.put {σ : St} (h : σ.wf) {id : Nat} {o : Ob} (hid : id < σ.next) (ho : o.lt σ.next) : (σ.put id o).wf where
  obj := fun j k hk => by
    simp only [St.obj_put] at hk
    split at hk
    · rename_i e
      injection hk with hk
      subst hk
      exact ⟨by rw [e]; exact hid, ho⟩
    · exact h.obj j k hk
  glob := fun k cs hc => h.glob k cs hc
theorem St.wf.bump {σ : St} (h : σ.wf) : σ.bump.wf where
  obj := fun j k hk => ⟨Nat.lt_succ_of_lt (h.obj j k hk).1, Ob.lt_mono (Nat.le_succ _) (h.obj j k hk).2⟩
  glob := fun k cs hc => ltL_mono (Nat.le_succ _) cs (h.glob k cs hc)
theorem St.wf.box {σ : St} (h : σ.wf) {cs : List D} (ho : ltL (σ.next + 1) cs) : (σ.new (.box cs)).wf := h.new ho
theorem St.wf.tok {σ : St} (h : σ.wf) {e n : Nat} : (σ.new (.tok e n)).wf := h.new trivial
theorem St.wf.bx {σ : St} (h : σ.wf) {t : Option Nat} {cs : List D} (ho : ltL (σ.next + 1) cs) : (σ.new (.bx t cs)).wf := h.new ho
theorem St.wf.top {σ : St} (h : σ.wf) {id : Nat} (hl : σ.next ≤ id) : σ.obj id = none := by
  cases ho : σ.obj id with
  | none => rfl
  | some o => have := (h.obj id o ho).1; omega

theorem St.put_new (σ : St) (o : Ob) (id : Nat) (o' : Ob) : (σ.new o).put id o' = if id = σ.next then σ.new o' else (σ.put id o').new o := by
  split
  · rename_i e
    subst e
    refine St.ext' (fun j => ?_) rfl rfl
    simp only [St.obj_put, St.obj_new]
    split <;> rfl
  · rename_i e
    refine St.ext' (fun j => ?_) rfl rfl
    simp only [St.obj_put, St.obj_new, St.next_put]
    by_cases h : j = id
    · subst h; simp [e]
    · simp [h]
theorem St.put_newAt (σ : St) (k : Nat) (o : Ob) (id : Nat) (o' : Ob) : (σ.newAt k o).put id o' = if id = k then σ.newAt k o' else (σ.put id o').newAt k o := by
  split
  · rename_i e
    subst e
    refine St.ext' (fun j => ?_) rfl rfl
    simp only [St.obj_put, St.obj_newAt]
    split <;> rfl
  · rename_i e
    refine St.ext' (fun j => ?_) rfl rfl
    simp only [St.obj_put, St.obj_newAt]
    by_cases h : j = id
    · subst h; simp [e]
    · simp [h]
theorem St.put_put (σ : St) (id : Nat) (o o' : Ob) : (σ.put id o).put id o' = σ.put id o' := by
  refine St.ext' (fun j => ?_) rfl rfl
  simp only [St.obj_put]
  split <;> rfl
theorem St.put_bump (σ : St) (id : Nat) (o : Ob) : σ.bump.put id o = (σ.put id o).bump := rfl

def mix (N : Nat) (A τ : St) : St := { obj := fun id => if id < N then A.obj id else τ.obj id, glob := τ.glob, next := τ.next }

theorem mix_obj (N : Nat) (A τ : St) (id : Nat) : (mix N A τ).obj id = if id < N then A.obj id else τ.obj id := rfl
theorem mix_next (N : Nat) (A τ : St) : (mix N A τ).next = τ.next := rfl
theorem mix_lt {N : Nat} {A τ : St} {id : Nat} (h : id < N) : (mix N A τ).obj id = A.obj id := if_pos h
theorem mix_new {N : Nat} {A τ : St} {o : Ob} (h : N ≤ τ.next) : (mix N A τ).new o = mix N A (τ.new o) := by
  refine St.ext' (fun j => ?_) rfl rfl
  simp only [St.obj_new, mix_obj, mix_next]
  by_cases e : j = τ.next
  · subst e; simp [Nat.not_lt.2 h]
  · simp [e]
theorem mix_put_lt {N : Nat} {A τ : St} {id : Nat} {o : Ob} (h : id < N) : (mix N A τ).put id o = mix N (A.put id o) τ := by
  refine St.ext' (fun j => ?_) rfl rfl
  simp only [St.obj_put, mix_obj]
  by_cases e : j = id
  · subst e; simp [h]
  · simp [e]
theorem mix_put_ge {N : Nat} {A τ : St} {id : Nat} {o : Ob} (h : N ≤ id) : (mix N A τ).put id o = mix N A (τ.put id o) := by
  refine St.ext' (fun j => ?_) rfl rfl
  simp only [St.obj_put, mix_obj]
  by_cases e : j = id
  · subst e; simp [Nat.not_lt.2 h]
  · simp [e]
theorem mix_put (N : Nat) (A τ : St) (id : Nat) (o : Ob) : (mix N A τ).put id o = if id < N then mix N (A.put id o) τ else mix N A (τ.put id o) := by
  split
  · rename_i h; exact mix_put_lt h
  · rename_i h; exact mix_put_ge (Nat.not_lt.1 h)
theorem mix_mix {N : Nat} {A B τ : St} : mix N A (mix N B τ) = mix N A τ := by
  refine St.ext' (fun j => ?_) rfl rfl
  simp only [mix_obj]
  split <;> rfl
theorem mix_in {N N' : Nat} {A B τ : St} (h : N ≤ N') : mix N A (mix N' B τ) = mix N' (mix N A B) τ := by
  refine St.ext' (fun j => ?_) rfl rfl
  simp only [mix_obj]
  by_cases h1 : j < N
  · rw [if_pos h1, if_pos (Nat.lt_of_lt_of_le h1 h), if_pos h1]
  · rw [if_neg h1, if_neg h1]
theorem new_mix {N : Nat} {A τ : St} {o : Ob} (h : N ≤ τ.next) : mix N A (τ.new o) = (mix N A τ).new o := (mix_new h).symm
theorem newAt_mix {N : Nat} {A τ : St} {id : Nat} {o : Ob} (h : N ≤ id) : mix N A (τ.newAt id o) = (mix N A τ).newAt id o := by
  refine St.ext' (fun j => ?_) rfl rfl
  simp only [St.obj_newAt, mix_obj]
  by_cases e : j = id
  · subst e; simp [Nat.not_lt.2 h]
  · simp [e]
theorem mix_up {N : Nat} {A B : St} (ha : A.wf) (hb : B.wf) (hna : A.next = N) (hnb : B.next = N) (hg : A.glob = B.glob) : mix N A B = A := by
  refine St.ext' (fun j => ?_) hg.symm (hnb.trans hna.symm)
  simp only [mix_obj]
  split
  · rfl
  · rename_i h
    rw [ha.top (by omega), hb.top (by omega)]

structure Low (N : Nat) (A τ : St) : Prop where
  next : N ≤ τ.next
  obj : ∀ id, id < N → τ.obj id = A.obj id
  glob : τ.glob = A.glob

theorem Low.eq {N : Nat} {A τ : St} (h : Low N A τ) : mix N A τ = τ := by
  refine St.ext' (fun j => ?_) rfl rfl
  simp only [mix_obj]
  split
  · rename_i hl; exact (h.obj j hl).symm
  · rfl
theorem Low.refl {N : Nat} {A : St} (h : A.next = N) : Low N A A := ⟨by omega, fun _ _ => rfl, rfl⟩
theorem Low.new {N : Nat} {A τ : St} (h : Low N A τ) (o : Ob) : Low N A (τ.new o) :=
  ⟨Nat.le_succ_of_le h.next, fun id hl => by have := h.next; rw [St.new_ne _ _ (by omega)]; exact h.obj id hl, h.glob⟩
theorem Low.newAt {N : Nat} {A τ : St} (h : Low N A τ) {id : Nat} (hid : N ≤ id) (o : Ob) : Low N A (τ.newAt id o) :=
  ⟨by rw [St.next_newAt]; omega, fun j hl => by rw [St.obj_newAt, if_neg (by omega)]; exact h.obj j hl, h.glob⟩
theorem Low.put {N : Nat} {A τ : St} (h : Low N A τ) {id : Nat} (hid : N ≤ id) (o : Ob) : Low N A (τ.put id o) :=
  ⟨h.next, fun j hl => by rw [St.obj_put, if_neg (by omega)]; exact h.obj j hl, h.glob⟩
theorem Low.bump {N : Nat} {A τ : St} (h : Low N A τ) : Low N A τ.bump := ⟨Nat.le_succ_of_le h.next, h.obj, h.glob⟩
theorem Low.mix {N : Nat} {A B τ : St} (h : N ≤ τ.next) (hg : τ.glob = A.glob) : Low N A (mix N A τ) := ⟨h, fun id hl => mix_lt hl, hg⟩

theorem Low.of_mix {N N' : Nat} {A B τ : St} (h : Low N A B) (hn : N ≤ N') (ht : N' ≤ τ.next) (hg : τ.glob = A.glob) : Low N A (Hl.mix N' B τ) :=
  ⟨Nat.le_trans hn ht, fun id hl => by rw [mix_lt (Nat.lt_of_lt_of_le hl hn)]; exact h.obj id hl, hg⟩

theorem St.wf.mix {N : Nat} {A τ : St} (ha : A.wf) (ht : τ.wf) (hna : A.next ≤ N) (h : N ≤ τ.next) : (mix N A τ).wf where
  obj := fun id o ho => by
    simp only [mix_obj] at ho
    split at ho
    · have := ha.obj id o ho
      exact ⟨by rw [mix_next]; omega, Ob.lt_mono (by rw [mix_next]; omega) this.2⟩
    · exact ht.obj id o ho
  glob := ht.glob

structure Ext (τ τ' : St) : Prop where
  next : τ.next ≤ τ'.next
  obj : ∀ id, id < τ.next → τ'.obj id = τ.obj id
  glob : τ'.glob = τ.glob

theorem Ext.refl (τ : St) : Ext τ τ := ⟨Nat.le_refl _, fun _ _ => rfl, rfl⟩
theorem Ext.new {τ τ' : St} (h : Ext τ τ') (o : Ob) : Ext τ (τ'.new o) :=
  ⟨Nat.le_succ_of_le h.next, fun id hl => by have := h.next; rw [St.new_ne _ _ (by omega)]; exact h.obj id hl, h.glob⟩
theorem Ext.newAt {τ τ' : St} (h : Ext τ τ') {id : Nat} (hid : τ.next ≤ id) (o : Ob) : Ext τ (τ'.newAt id o) :=
  ⟨by rw [St.next_newAt]; omega, fun j hl => by rw [St.obj_newAt, if_neg (by omega)]; exact h.obj j hl, h.glob⟩
theorem Ext.put {τ τ' : St} (h : Ext τ τ') {id : Nat} (hid : τ.next ≤ id) (o : Ob) : Ext τ (τ'.put id o) :=
  ⟨h.next, fun j hl => by rw [St.obj_put, if_neg (by omega)]; exact h.obj j hl, h.glob⟩
theorem Ext.bump {τ τ' : St} (h : Ext τ τ') : Ext τ τ'.bump := ⟨Nat.le_succ_of_le h.next, h.obj, h.glob⟩
theorem Ext.sub {τ τ' : St} (hw : τ.wf) (h : Ext τ τ') : Sub τ τ' := ⟨h.next, fun id o ho => by rw [h.obj id (hw.obj id o ho).1]; exact ho, h.glob.symm⟩

theorem Drop.mix {N : Nat} {A τ τ' : St} {env : Env} (ha : A.wf) (ht : τ.wf) (hna : A.next ≤ N) (h : N ≤ τ.next) (hx : Ext τ τ') : Drop τ.next [] (mix N A τ) env (mix N A τ') where
  n0 := Nat.le_refl _
  next := hx.next
  wf := ha.mix ht hna h
  same := fun id o ho => by
    simp only [mix_obj] at ho ⊢
    split at ho
    · rename_i hl; rw [if_pos hl]; exact ho
    · rename_i hl; rw [if_neg hl, hx.obj id (ht.obj id o ho).1]; exact ho
  glob := hx.glob.symm
  env := fun _ h => by cases h

structure Tk (X : Type) where
  C : Type
  N : Nat
  T : C → St
  ok : C → X → Prop
  step : C → X → C × Bool
  next : ∀ c, (T c).next = N
  glob : ∀ c c', (T c).glob = (T c').glob
  wf : ∀ c, (T c).wf

namespace Tk
variable {X : Type} (tk : Tk X)

def run : tk.C → List X → tk.C × Bool
  | c, [] => (c, true)
  | c, x :: xs => if (tk.step c x).2 then run (tk.step c x).1 xs else ((tk.step c x).1, false)

def oks : tk.C → List X → Prop
  | _, [] => True
  | c, x :: xs => tk.ok c x ∧ ((tk.step c x).2 = true → oks (tk.step c x).1 xs)

structure Takes (P : Program) (enc : X → List D) (y : D) : Prop where
  lt : y.lt tk.N
  one : cellsD y = some [y]
  call : ∀ c x τ, Low tk.N (tk.T c) τ → tk.ok c x → HCallD P y (enc x) τ fun d σ' => d = .bool (tk.step c x).2 ∧ σ' = mix tk.N (tk.T (tk.step c x).1) τ

variable {tk}
theorem mixT (c c' : tk.C) : mix tk.N (tk.T c) (tk.T c') = tk.T c := mix_up (tk.wf c) (tk.wf c') (tk.next c) (tk.next c') (tk.glob c c')
theorem mixT_new (c c' : tk.C) (o : Ob) : mix tk.N (tk.T c) ((tk.T c').new o) = (tk.T c).new o := by rw [new_mix (by rw [tk.next]; exact Nat.le_refl _), mixT]
theorem mixT_new2 (c c' : tk.C) (o o2 : Ob) : mix tk.N (tk.T c) (((tk.T c').new o).new o2) = ((tk.T c).new o).new o2 := by rw [new_mix (by rw [St.next_new, tk.next]; exact Nat.le_succ _), mixT_new]
theorem low (c : tk.C) : Low tk.N (tk.T c) (tk.T c) := Low.refl (tk.next c)

theorem run_true {c : tk.C} {x : X} {xs : List X} (h : (tk.step c x).2 = true) : tk.run c (x :: xs) = tk.run (tk.step c x).1 xs := by simp only [run]; rw [if_pos h]
theorem run_false {c : tk.C} {x : X} {xs : List X} (h : (tk.step c x).2 = false) : tk.run c (x :: xs) = ((tk.step c x).1, false) := by simp only [run]; rw [if_neg (by rw [h]; decide)]

end Tk

def Iter (P : Program) (f : Nat) (A : D → List D) {X : Type} (enc : X → List D) (xs : List X) : Prop :=
  ∀ (tk : Tk X) (c : tk.C) (y : D), tk.oks c xs → tk.Takes P enc y → HCalls P f (A y) (tk.T c) fun _ σ' => σ' = tk.T (tk.run c xs).1

def rngRun {C X : Type} (step : C → X → C × Option HC) : C → List X → C × Option HC
  | c, [] => (c, none)
  | c, x :: xs => match (step c x).2 with
    | none => rngRun step (step c x).1 xs
    | some j => ((step c x).1, some j)
def rngOks {C X : Type} (ok : C → X → Prop) (step : C → X → C × Option HC) : C → List X → Prop
  | _, [] => True
  | c, x :: xs => ok c x ∧ ((step c x).2 = none → rngOks ok step (step c x).1 xs)

def LSt.ofJump : Option HC → LSt
  | none => .ready
  | some j => .done j

def rngTk {C X : Type} (S : C → St) (n : Nat) (nt : Nat) (env : Env) (ps : List Nat) (asg body : HC) (ok : C → X → Prop) (step : C → X → C × Option HC) (hnext : ∀ c, (S c).next = n)
    (hglob : ∀ c c', (S c).glob = (S c').glob) (hwf : ∀ c, (S c).wf) (he : ∀ t, (look env t).lt n) : Tk X where
  C := C × LSt
  N := n + 1
  T c := (S c.1).new (.loop nt env ps asg body c.2)
  ok c x := c.2 = .ready ∧ ok c.1 x
  step c x := (((step c.1 x).1, .ofJump (step c.1 x).2), (step c.1 x).2.isNone)
  next c := by rw [St.next_new, hnext]
  glob c c' := hglob c.1 c'.1
  wf c := (hwf c.1).new (fun t => D.lt_mono (by rw [hnext]; exact Nat.le_succ _) _ (he t))

section
variable {C X : Type} {S : C → St} {n : Nat} {nt : Nat} {env : Env} {ps : List Nat} {asg body : HC} {ok : C → X → Prop} {step : C → X → C × Option HC} {hnext : ∀ c, (S c).next = n}
    {hglob : ∀ c c', (S c).glob = (S c').glob} {hwf : ∀ c, (S c).wf} {he : ∀ t, (look env t).lt n}

theorem rngTk_run : ∀ (xs : List X) (c : C), ((rngTk S n nt env ps asg body ok step hnext hglob hwf he).run (c, .ready) xs).1 = ((rngRun step c xs).1, .ofJump (rngRun step c xs).2)
  | [], c => rfl
  | x :: xs, c => by
    cases h : (step c x).2 with
    | none =>
      have h1 : ((rngTk S n nt env ps asg body ok step hnext hglob hwf he).step (c, .ready) x) = (((step c x).1, .ready), true) := by simp only [rngTk, h]; rfl
      rw [Tk.run_true (tk := rngTk S n nt env ps asg body ok step hnext hglob hwf he) (c := (c, LSt.ready)) (by rw [h1]), h1]
      simp only [rngRun, h]
      exact rngTk_run xs _
    | some j =>
      have h1 : ((rngTk S n nt env ps asg body ok step hnext hglob hwf he).step (c, .ready) x) = (((step c x).1, .done j), false) := by simp only [rngTk, h]; rfl
      rw [Tk.run_false (tk := rngTk S n nt env ps asg body ok step hnext hglob hwf he) (c := (c, LSt.ready)) (by rw [h1]), h1]
      simp only [rngRun, h, LSt.ofJump]
      rfl

theorem rngTk_oks : ∀ (xs : List X) (c : C), rngOks ok step c xs → (rngTk S n nt env ps asg body ok step hnext hglob hwf he).oks (c, .ready) xs
  | [], c, _ => trivial
  | x :: xs, c, h => ⟨⟨rfl, h.1⟩, fun hb => by
      have hn : (step c x).2 = none := by
        have : (step c x).2.isNone = true := hb
        simpa using this
      have h1 : ((rngTk S n nt env ps asg body ok step hnext hglob hwf he).step (c, .ready) x).1 = ((step c x).1, .ready) := by simp only [rngTk, hn]; rfl
      rw [h1]
      exact rngTk_oks xs _ (h.2 hn)⟩

end

section
variable {M : Md} {base : HPost} {k : List It} {env : Env} {σ : St}

def RangeEnd (M : Md) (base : HPost) (k : List It) (env : Env) (σ : St) : Option HC → Prop
  | none => HX M base k env σ
  | some j => HX M base (.code j :: k) env σ

def Round (P : Program) (nt id : Nat) (env : Env) (ps : List Nat) (asg body : HC) (args : List D) (τ : St) (K : D → St → Prop) : Prop :=
  ∀ M' : Md, M'.P = P → M'.nt = nt → (∃ l, M'.r = some (id, l)) → M'.gS.next = τ.next → τ.wf → ltL τ.next args →
      HX M' (fun _ _ _ => False) [.code asg, .stop fun env1 σ1 => σ1.obj id = some (.loop nt env ps asg body .ready) ∧ HX M' (RPost τ.next nt id env ps asg body K) [.code body] env1 (σ1.put id (.loop nt env ps asg body .busy))] (putsE env ps args) τ

theorem hx_range_fold {f : X} {ps : List Nat} {asg body : HC} {fn : Nat} {caps : List D} {T C : Type} {enc : T → List D} {xs : List T} (S : C → St) (ok : C → T → Prop) (step : C → T → C × Option HC) (c0 : C)
    (hf : evX σ env f = .func fn caps) (hbody : hasBody M.P fn = true) (hin : ∀ id l, M.r = some (id, l) → ∃ nt e p a b st, σ.obj id = some (.loop nt e p a b st))
    (it : Iter M.P fn (fun y => y :: caps) enc xs) (hS : S c0 = σ) (hnext : ∀ c, (S c).next = σ.next) (hglob : ∀ c c', (S c).glob = (S c').glob) (hwf : ∀ c, (S c).wf) (he : ∀ t, (look env t).lt σ.next)
    (hok : rngOks ok step c0 xs) (hlen : ∀ x, (enc x).length = ps.length) (hps : ∀ p ∈ ps, p < M.nt)
    (round : ∀ c x τ, ok c x → σ.next + 1 ≤ τ.next → τ.wf → τ.glob = (S c).glob → Round M.P M.nt σ.next env ps asg body (enc x) (mix (σ.next + 1) ((S c).new (.loop M.nt env ps asg body .ready)) τ)
      fun d σ' => d = .bool (step c x).2.isNone ∧ σ' = mix (σ.next + 1) ((S (step c x).1).new (.loop M.nt env ps asg body (.ofJump (step c x).2))) τ)
    (hend : RangeEnd M base k env (S (rngRun step c0 xs).1).bump (rngRun step c0 xs).2) :
    HX M base (.code (.range f ps asg body) :: k) env σ := by
  refine hx_range hf hbody hin ?_
  let tk := rngTk S σ.next M.nt env ps asg body ok step hnext hglob hwf he
  have h0 : tk.T (c0, .ready) = σ.new (.loop M.nt env ps asg body .ready) := by
    show (S c0).new _ = _
    rw [hS]
  rw [← h0]
  refine (it tk (c0, .ready) _ (rngTk_oks xs c0 hok) ⟨by simp only [D.lt]; exact Nat.lt_succ_self _, rfl, ?_⟩).mono ?_
  · rintro ⟨c, st⟩ x τ hlow ⟨rfl, hk⟩
    have hlow' : Low (σ.next + 1) ((S c).new (.loop M.nt env ps asg body .ready)) τ := hlow
    have hob : τ.obj σ.next = some (.loop M.nt env ps asg body .ready) := by
      rw [hlow'.obj _ (Nat.lt_succ_self _), ← hnext c, St.new_same]
    refine hcallD_yield hob (hlen x) hps fun M' h1 h2 h3 h4 h5 h6 => ?_
    have := round c x τ hk hlow'.next h5 hlow'.glob M' h1 h2 h3
    rw [hlow'.eq] at this
    exact this h4 h5 h6
  · rintro d σ' rfl
    rw [rngTk_run]
    refine ⟨.ofJump (rngRun step c0 xs).2, ?_, ?_⟩
    · show ((S _).new _).obj σ.next = _
      rw [← hnext (rngRun step c0 xs).1, St.new_same]
    · have hd : ∀ st, ((S (rngRun step c0 xs).1).new (.loop M.nt env ps asg body st)).del σ.next = (S (rngRun step c0 xs).1).bump := fun st => by
        refine St.ext' (fun j => ?_) rfl rfl
        simp only [St.obj_del, St.obj_new, St.obj_bump, hnext]
        split
        · rename_i e
          rw [(hwf _).top (by rw [hnext, e]; exact Nat.le_refl _)]
        · rfl
      cases hj : (rngRun step c0 xs).2 with
      | none => rw [hj] at hend; simp only [LSt.ofJump]; show HX M base k env (((S _).new _).del σ.next); rw [hd]; exact hend
      | some j => rw [hj] at hend; simp only [LSt.ofJump]; show HX M base (.code j :: k) env (((S _).new _).del σ.next); rw [hd]; exact hend

theorem resD_cell {σ : St} {env : Env} {t id : Nat} {d : D} {hs : List HR} {ds : List D} {p : Prop} (h : look env t = .ptr id 0) (h2 : σ.obj id = some (.box [d])) (h3 : resD σ env hs = some (ds, p)) :
    resD σ env (.cell t none :: hs) = some (d :: ds, (0 < 1) ∧ p) := by
  simp only [resD, hval, evX, h, h2, rdD, h3]
  rfl
theorem resD_cellS {σ : St} {env : Env} {t id n : Nat} {ot : Option Nat} {cs : List D} {hs : List HR} {ds : List D} {p : Prop} (h : look env t = .ptr id 0) (h2 : σ.obj id = some (.bx ot cs)) (hn : cs.length = n) (h3 : resD σ env hs = some (ds, p)) :
    resD σ env (.cell t (some n) :: hs) = some (.agg cs :: ds, (0 + n ≤ cs.length) ∧ p) := by
  simp only [resD, hval, evX, h, h2, rdD, h3]
  simp [hn]
theorem resD_nil {σ : St} {env : Env} : resD σ env [] = some ([], True) := rfl

theorem fpost_mix {N n0 : Nat} {res : List HR} {e : Exit} {env : Env} {A B τ τ' : St} {v : D} {ds : List D} {p : Prop} (he : e = .normal ∨ e = .ret) (hn0 : n0 = τ.next) (hAB : A = B) (hwf : B.wf) (hn : B.next = N) (hτ : τ.wf) (hle : N ≤ τ.next) (hx : Ext τ τ')
    (hr : resD (mix N A τ') env res = some (ds, p)) (hp : p) (hv : tupD ds = v) (hlt : v.lt τ.next) :
    FPost n0 res (fun d σ' => d = v ∧ σ' = mix N B τ) e env (mix N A τ') := by
  subst hAB
  subst hv
  subst hn0
  exact ⟨he, fun _ _ _ => ⟨ds, p, fun _ => none, false, mix N A τ, hr, hp, (fun _ _ h => by cases h), by rw [frzD_id]; exact hlt, Drop.mix hwf hτ (Nat.le_of_eq hn) hle hx, _, Wk.refl _, by rw [frzD_id], rfl⟩⟩

theorem round_end {n nt : Nat} {env env' : Env} {ps : List Nat} {asg body : HC} {A B τ τ' : St} {e : Exit} (j : Option HC) (hj : match e, j with | .normal, none => True | .ret, some .ret => True | .exit i, some (.exit i') => i = i' | _, _ => False)
    (hAB : A = B) (hn : A.next = n) (hwf : B.wf) (he : ∀ t, (look env t).lt n) (hτ : τ.wf) (hle : n + 1 ≤ τ.next) (hx : Ext τ τ') :
    RPost τ.next nt n env ps asg body (fun d σ' => d = .bool j.isNone ∧ σ' = mix (n + 1) (B.new (.loop nt env ps asg body (.ofJump j))) τ) e env' (mix (n + 1) (A.new (.loop nt env ps asg body .busy)) τ') := by
  subst hAB
  subst hn
  refine ⟨by rw [mix_lt (Nat.lt_succ_self _), St.new_same], ?_⟩
  have key : ∀ st, ∃ σ', Drop τ.next [] σ' env' ((mix (A.next + 1) (A.new (.loop nt env ps asg body .busy)) τ').put A.next (.loop nt env ps asg body st)) ∧ σ' = mix (A.next + 1) (A.new (.loop nt env ps asg body st)) τ := fun st => by
    rw [mix_put_lt (Nat.lt_succ_self _), St.put_new, if_pos rfl]
    exact ⟨_, Drop.mix (hwf.new (fun t => D.lt_mono (Nat.le_succ _) _ (he t))) hτ (Nat.le_refl _) hle hx, rfl⟩
  cases e <;> cases j <;> first
    | exact hj.elim
    | skip
  · exact fun _ _ => let ⟨σ', h1, h2⟩ := key .ready; ⟨σ', h1, rfl, h2⟩
  · rename_i i j
    cases j <;> first
      | exact hj.elim
      | (simp only at hj; subst hj; exact fun _ _ => let ⟨σ', h1, h2⟩ := key _; ⟨σ', h1, rfl, h2⟩)
  · rename_i j
    cases j <;> first
      | exact hj.elim
      | exact fun _ _ => let ⟨σ', h1, h2⟩ := key _; ⟨σ', h1, rfl, h2⟩

theorem round_next {n nt : Nat} {env env' : Env} {ps : List Nat} {asg body : HC} {A B τ τ' : St}
    (hAB : A = B) (hn : A.next = n) (hwf : B.wf) (he : ∀ t, (look env t).lt n) (hτ : τ.wf) (hle : n + 1 ≤ τ.next) (hx : Ext τ τ') :
    RPost τ.next nt n env ps asg body (fun d σ' => d = .bool true ∧ σ' = mix (n + 1) (B.new (.loop nt env ps asg body .ready)) τ) .normal env' (mix (n + 1) (A.new (.loop nt env ps asg body .busy)) τ') :=
  round_end (e := .normal) none trivial hAB hn hwf he hτ hle hx
theorem round_ret {n nt : Nat} {env env' : Env} {ps : List Nat} {asg body : HC} {A B τ τ' : St}
    (hAB : A = B) (hn : A.next = n) (hwf : B.wf) (he : ∀ t, (look env t).lt n) (hτ : τ.wf) (hle : n + 1 ≤ τ.next) (hx : Ext τ τ') :
    RPost τ.next nt n env ps asg body (fun d σ' => d = .bool false ∧ σ' = mix (n + 1) (B.new (.loop nt env ps asg body (.done .ret))) τ) .ret env' (mix (n + 1) (A.new (.loop nt env ps asg body .busy)) τ') :=
  round_end (e := .ret) (some .ret) trivial hAB hn hwf he hτ hle hx

end
end Go.Hl
set_option linter.unusedSectionVars false
set_option linter.unusedVariables false
namespace Go.Hl
open Go

def envI (env : Env) (uses : List (Nat × Nat)) : Env := uses.map fun u => (u.1, look env u.2)

def dOne (nt : Nat) (σ : St) (env : Env) (i : Nat) (d : DI) : Prop :=
  match guardB (envI env d.uses) d.guard with
  | some true => match hstep σ (evX σ (envI env d.uses)) d.op with
    | some (v, σ', p) => p ∧ σ' = σ ∧ look env (nt + i) = v
    | none => False
  | some false => look env (nt + i) = .dead
  | none => False

def dOk (nt : Nat) (σ : St) (k : Nat) (env : Env) : Nat → List DI → Prop
  | _, [] => True
  | i, d :: D => (if d.eff = false ∧ d.lo ≤ k ∧ k ≤ d.hi then dOne nt σ env i d else True) ∧ dOk nt σ k env (i + 1) D

def dRun (nt : Nat) (σ : St) (k : Nat) : Nat → List DI → Env → Option Env
  | _, [], env => some env
  | i, d :: D, env => if d.eff = false ∧ d.lo = k then
      match guardB (envI env d.uses) d.guard with
      | some true => match hstep σ (evX σ (envI env d.uses)) d.op with
        | some (v, _, _) => dRun nt σ k (i + 1) D (putE env (nt + i) v)
        | none => none
      | some false => dRun nt σ k (i + 1) D (putE env (nt + i) .dead)
      | none => none
    else dRun nt σ k (i + 1) D env

def lowE (nt : Nat) : Env → Env
  | [] => []
  | (t, d) :: r => if t < nt then (t, d) :: lowE nt r else lowE nt r

def dFin (nt : Nat) (env : Env) : Nat → List DI → Env → Env
  | _, [], e => e
  | i, d :: D, e => match d.dst with
    | some t => dFin nt env (i + 1) D (putE e t (look env (nt + i)))
    | none => dFin nt env (i + 1) D e

structure DR (M : Md) (D : List DI) (k b : Nat) (env : Env) (listed : Array Bool) (g : G) (w : World) (σ : St) (a : Act) : Prop where
  rl : Rl M g w σ [] a
  size : listed.size = D.length
  old : ∀ t, t < M.nt → (∀ (j : Nat) d, D[j]? = some d → d.dst = some t → listed.getD j true = false) → R g w (look env t) (a.tmps.getD t Go.undef)
  val : ∀ (j : Nat) d t, D[j]? = some d → d.dst = some t → listed.getD j true = true → R g w (look env (M.nt + j)) (a.tmps.getD t Go.undef)
  clos : ∀ (i j : Nat), i < D.length → listed.getD i true = true → (ancOf D i).testBit j = true → listed.getD j true = true ∧ j < D.length
  eff : ∀ (m i : Nat), (effsFrom 0 D)[m]? = some i → (listed.getD i true = true ↔ m < k)
  bnd : ∀ (j : Nat) d, D[j]? = some d → d.eff = false → listed.getD j true = true → d.lo < b
  le : k ≤ (effsFrom 0 D).length

def unl (l : List Bool) : Nat := l.count false

def HDb (M : Md) (base : HPost) (kont : List It) (D : List DI) (k b : Nat) (env : Env) (σ : St) : Prop :=
  chained D (effsFrom 0 D) = true → ∀ ops, cmpDraw M.P M.nt ops D = true → ∀ fuel listed g w a, DR M D k b env listed g w σ a → unl listed.toList ≤ fuel → wpAnyIn M.F 0 M.P .any ops (Out M (KP M base kont)) fuel listed a w

def HD (M : Md) (base : HPost) (kont : List It) (D : List DI) (k : Nat) (env : Env) (σ : St) : Prop := HDb M base kont D k (k + 1) env σ
def HDp (M : Md) (base : HPost) (kont : List It) (D : List DI) (k : Nat) (env : Env) (σ : St) : Prop := HDb M base kont D k k env σ

theorem effsFrom_mem : ∀ {D : List DI} {i m j : Nat}, (effsFrom i D)[m]? = some j → i ≤ j ∧ ∃ d, D[j - i]? = some d ∧ d.eff = true
  | [], i, m, j, h => by simp [effsFrom] at h
  | d :: D, i, m, j, h => by
    simp only [effsFrom] at h
    split at h
    · rename_i he
      cases m with
      | zero =>
        simp at h
        subst h
        exact ⟨Nat.le_refl _, d, by simp, he⟩
      | succ m =>
        simp at h
        obtain ⟨h1, d', h2, h3⟩ := effsFrom_mem h
        refine ⟨by omega, d', ?_, h3⟩
        rw [show j - i = (j - (i + 1)) + 1 by omega]
        simpa using h2
    · obtain ⟨h1, d', h2, h3⟩ := effsFrom_mem h
      refine ⟨by omega, d', ?_, h3⟩
      rw [show j - i = (j - (i + 1)) + 1 by omega]
      simpa using h2

theorem mem_effsFrom : ∀ {D : List DI} {i j : Nat} {d : DI}, D[j]? = some d → d.eff = true → ∃ m : Nat, (effsFrom i D)[m]? = some (i + j)
  | [], i, j, d, h, _ => by simp at h
  | x :: D, i, 0, d, h, he => by
    simp at h
    subst h
    exact ⟨0, by simp [effsFrom, he]⟩
  | x :: D, i, j + 1, d, h, he => by
    simp at h
    obtain ⟨m, hm⟩ := mem_effsFrom (i := i + 1) h he
    rw [show i + 1 + j = i + (j + 1) by omega] at hm
    simp only [effsFrom]
    split
    · exact ⟨m + 1, by simpa using hm⟩
    · exact ⟨m, hm⟩

theorem effs_inj {D : List DI} : ∀ {i m m' j : Nat}, (effsFrom i D)[m]? = some j → (effsFrom i D)[m']? = some j → m = m' := by
  induction D with
  | nil => intro i m m' j h; simp [effsFrom] at h
  | cons d D ih =>
    intro i m m' j h h'
    simp only [effsFrom] at h h'
    split at h
    · rename_i he
      rw [if_pos he] at h'
      cases m with
      | zero =>
        cases m' with
        | zero => rfl
        | succ m' =>
          simp at h h'
          have := (effsFrom_mem h').1
          omega
      | succ m =>
        cases m' with
        | zero =>
          simp at h h'
          have := (effsFrom_mem h).1
          omega
        | succ m' =>
          simp at h h'
          rw [ih h h']
    · rename_i he
      rw [if_neg he] at h'
      exact ih h h'

theorem chained_spec {D : List DI} : ∀ {es : List Nat} {m a b : Nat}, chained D es = true → es[m]? = some a → es[m + 1]? = some b → (ancOf D b).testBit a = true
  | [], m, a, b, _, h, _ => by simp at h
  | [x], m, a, b, _, _, h => by simp at h
  | x :: y :: r, 0, a, b, hc, h1, h2 => by
    simp at h1 h2
    subst h1 h2
    simp only [chained, Bool.and_eq_true] at hc
    exact hc.1
  | x :: y :: r, m + 1, a, b, hc, h1, h2 => by
    simp only [chained, Bool.and_eq_true] at hc
    exact chained_spec (es := y :: r) hc.2 (by simpa using h1) (by simpa using h2)

theorem edgeBits_spec {anc : Nat → Nat} {i j : Nat} : ∀ {es : List Edge}, (edgeBits anc i es).testBit j = true → ∃ e ∈ es, Region.binds .any e = true ∧ (e.on = j ∨ (anc e.on).testBit j = true)
  | [], h => by simp [edgeBits] at h
  | e :: es, h => by
    simp only [edgeBits] at h
    split at h
    · rename_i hb
      rw [Nat.testBit_or, Nat.testBit_or, Bool.or_eq_true, Bool.or_eq_true] at h
      rcases h with (h | h) | h
      · rw [Nat.one_shiftLeft, Nat.testBit_two_pow] at h
        exact ⟨e, by simp, hb, .inl (by simpa using h)⟩
      · exact ⟨e, by simp, hb, .inr h⟩
      · obtain ⟨e', he, h'⟩ := edgeBits_spec h
        exact ⟨e', by simp [he], h'⟩
    · obtain ⟨e', he, h'⟩ := edgeBits_spec h
      exact ⟨e', by simp [he], h'⟩

theorem laterAll_spec {i t : Nat} : ∀ {D : List DI} {j0 j : Nat} {d : DI}, laterAll i t j0 D = true → D[j]? = some d → d.dst = some t → j0 + j = i ∨ d.anc.testBit i = true
  | [], j0, j, d, _, h, _ => by simp at h
  | x :: D, j0, 0, d, hl, h, hd => by
    simp at h
    subst h
    simp only [laterAll, Bool.and_eq_true, Bool.or_eq_true, hd, beq_self_eq_true, Bool.not_true, Bool.false_eq_true, false_or, beq_iff_eq] at hl
    exact hl.1
  | x :: D, j0, j + 1, d, hl, h, hd => by
    simp only [laterAll, Bool.and_eq_true] at hl
    have := laterAll_spec hl.2 (by simpa using h) hd
    rwa [show j0 + 1 + j = j0 + (j + 1) by omega] at this

theorem loOk_spec {anc : Nat} : ∀ {l : Nat} {es : List Nat}, loOk anc l es = true → ∀ m, m < l → ∃ e, es[m]? = some e ∧ anc.testBit e = true
  | 0, _, _, m, h => by omega
  | l + 1, [], h, _, _ => by simp [loOk] at h
  | l + 1, e :: es, h, m, hm => by
    simp only [loOk, Bool.and_eq_true] at h
    cases m with
    | zero => exact ⟨e, rfl, h.1⟩
    | succ m =>
      obtain ⟨e', h1, h2⟩ := loOk_spec h.2 m (by omega)
      exact ⟨e', by simpa using h1, h2⟩

theorem hiOk_spec {D : List DI} {i : Nat} : ∀ {h : Nat} {es : List Nat}, hiOk D i h es = true → ∀ m e, h ≤ m → es[m]? = some e → (ancOf D e).testBit i = true
  | h, [], _, m, e, _, he => by simp at he
  | 0, x :: es, hh, m, e, _, he => by
    simp only [hiOk, Bool.and_eq_true] at hh
    cases m with
    | zero => simp at he; subst he; exact hh.1
    | succ m => exact hiOk_spec hh.2 m e (Nat.zero_le _) (by simpa using he)
  | h + 1, x :: es, hh, m, e, hm, he => by
    simp only [hiOk] at hh
    cases m with
    | zero => omega
    | succ m => exact hiOk_spec hh m e (by omega) (by simpa using he)

theorem dstsOk_spec : ∀ {ds : List (Option Nat)} {i j : Nat} {t : Nat}, dstsOk ds = true → ds[i]? = some (some t) → ds[j]? = some (some t) → i = j
  | [], i, j, t, _, h, _ => by simp at h
  | d :: ds, i, j, t, hd, hi, hj => by
    simp only [dstsOk, Bool.and_eq_true] at hd
    cases i with
    | zero =>
      cases j with
      | zero => rfl
      | succ j =>
        simp at hi hj
        subst hi
        simp only [Bool.not_eq_true', List.contains_eq_mem, decide_eq_false_iff_not] at hd
        exact absurd (List.mem_of_getElem? hj) hd.1
    | succ i =>
      cases j with
      | zero =>
        simp at hi hj
        subst hj
        simp only [Bool.not_eq_true', List.contains_eq_mem, decide_eq_false_iff_not] at hd
        exact absurd (List.mem_of_getElem? hi) hd.1
      | succ j =>
        simp at hi hj
        rw [dstsOk_spec hd.2 hi hj]

theorem cmpDs_spec {P : Program} {nt : Nat} {ops : Array Oper} {D : List DI} : ∀ {os : List Oper} {ds : List DI} {i : Nat}, cmpDs P nt ops D i os ds = true → os.length = ds.length ∧ ∀ (j : Nat) o d, os[j]? = some o → ds[j]? = some d → cmpD1 P nt ops D (i + j) o d = true
  | [], [], i, _ => ⟨rfl, fun j o d h => by simp at h⟩
  | [], _ :: _, i, h => by simp [cmpDs] at h
  | _ :: _, [], i, h => by simp [cmpDs] at h
  | o :: os, d :: ds, i, h => by
    simp only [cmpDs, Bool.and_eq_true] at h
    obtain ⟨h1, h2⟩ := cmpDs_spec h.2
    refine ⟨by simp [h1], fun j o' d' ho hd => ?_⟩
    cases j with
    | zero =>
      simp at ho hd
      subst ho hd
      exact h.1
    | succ j =>
      have := h2 j o' d' (by simpa using ho) (by simpa using hd)
      rwa [show i + 1 + j = i + (j + 1) by omega] at this

theorem dOk_spec {nt k : Nat} {σ : St} {env : Env} : ∀ {D : List DI} {i j : Nat} {d : DI}, dOk nt σ k env i D → D[j]? = some d → d.eff = false → d.lo ≤ k → k ≤ d.hi → dOne nt σ env (i + j) d
  | [], i, j, d, _, h, _, _, _ => by simp at h
  | x :: D, i, 0, d, ho, h, h1, h2, h3 => by
    simp at h
    subst h
    simp only [dOk] at ho
    rw [if_pos ⟨h1, h2, h3⟩] at ho
    exact ho.1
  | x :: D, i, j + 1, d, ho, h, h1, h2, h3 => by
    simp only [dOk] at ho
    have := dOk_spec ho.2 (by simpa using h) h1 h2 h3
    rwa [show i + 1 + j = i + (j + 1) by omega] at this

theorem look_envI {env : Env} : ∀ {uses : List (Nat × Nat)} {t : Nat}, look (envI env uses) t = .undef ∨ ∃ s, (t, s) ∈ uses ∧ look (envI env uses) t = look env s
  | [], t => .inl rfl
  | u :: us, t => by
    simp only [envI, List.map_cons, look]
    split
    · rename_i e
      exact .inr ⟨u.2, by rw [← e]; simp, rfl⟩
    · rcases look_envI (uses := us) (t := t) with h | ⟨s, hs, h⟩
      · exact .inl h
      · exact .inr ⟨s, by simp [hs], h⟩

theorem look_lowE (nt : Nat) : ∀ (env : Env) (t : Nat), look (lowE nt env) t = if t < nt then look env t else .undef
  | [], t => by simp [lowE, look]
  | (k, d) :: r, t => by
    simp only [lowE]
    split
    · rename_i hk
      simp only [look]
      rw [look_lowE nt r t]
      by_cases e : k = t
      · subst e; simp [hk]
      · simp [e]
    · rename_i hk
      rw [look_lowE nt r t]
      simp only [look]
      by_cases e : k = t
      · subst e; simp [hk]
      · simp [e]

theorem look_dFin (nt : Nat) (env : Env) : ∀ (D : List DI) (i : Nat) (e : Env) (t : Nat), dstsOk (D.map (·.dst)) = true →
    ((∀ (j : Nat) d, D[j]? = some d → d.dst ≠ some t) → look (dFin nt env i D e) t = look e t) ∧
    (∀ (j : Nat) d, D[j]? = some d → d.dst = some t → look (dFin nt env i D e) t = look env (nt + (i + j)))
  | [], i, e, t, _ => ⟨fun _ => rfl, fun j d h => by simp at h⟩
  | x :: D, i, e, t, hd => by
    have hd' := hd
    simp only [List.map_cons, dstsOk, Bool.and_eq_true] at hd
    simp only [dFin]
    cases hx : x.dst with
    | none =>
      obtain ⟨h1, h2⟩ := look_dFin nt env D (i + 1) e t hd.2
      refine ⟨fun h => h1 fun j d hj => h (j + 1) d (by simpa using hj), fun j d hj hdt => ?_⟩
      cases j with
      | zero => simp at hj; subst hj; rw [hx] at hdt; cases hdt
      | succ j =>
        have := h2 j d (by simpa using hj) hdt
        rwa [show i + 1 + j = i + (j + 1) by omega] at this
    | some s =>
      simp only
      obtain ⟨h1, h2⟩ := look_dFin nt env D (i + 1) (putE e s (look env (nt + i))) t hd.2
      refine ⟨fun h => ?_, fun j d hj hdt => ?_⟩
      · rw [h1 fun j d hj => h (j + 1) d (by simpa using hj), look_putE, if_neg (fun e => h 0 x rfl (by rw [hx, e]))]
      · cases j with
        | zero =>
          simp at hj
          subst hj
          rw [hx] at hdt
          injection hdt with hdt
          subst hdt
          rw [h1 (fun j d hj hdj => ?_), look_putE, if_pos rfl, Nat.add_zero]
          have := dstsOk_spec (i := 0) (j := j + 1) (t := s) hd' (by simp [hx]) (by simp [hj, hdj])
          omega
        | succ j =>
          have := h2 j d (by simpa using hj) hdt
          rwa [show i + 1 + j = i + (j + 1) by omega] at this

end Go.Hl
