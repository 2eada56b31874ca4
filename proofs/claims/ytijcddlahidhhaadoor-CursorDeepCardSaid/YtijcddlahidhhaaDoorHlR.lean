/-
  Regions that draw their order, where each operation's value is the same in each order, and the store depends on which ones are done.
-/
import Derived.Test.YtijcddlahidhhaaDoorHlU
set_option linter.unusedSectionVars false
set_option linter.unusedVariables false
namespace Go.Hl
open Go

def valV (vals : List D) : Nat → D := fun j => vals.getD j .undef

theorem useV_congr {nt : Nat} {env : Env} {V V' : Nat → D} : ∀ {us : List (Nat × Nat)}, (∀ u ∈ us, nt ≤ u.2 → V (u.2 - nt) = V' (u.2 - nt)) → useV nt env V us = useV nt env V' us
  | [], _ => rfl
  | u :: us, h => by
    simp only [useV, List.map_cons]
    have h1 := useV_congr (nt := nt) (env := env) (us := us) fun x hx => h x (List.mem_cons_of_mem _ hx)
    simp only [useV] at h1
    rw [h1]
    congr 2
    split
    · rfl
    · exact h u (List.mem_cons_self ..) (by omega)

theorem dFinV_congr {V V' : Nat → D} : ∀ {ds : List DI} {i : Nat} {e : Env}, (∀ j, j < ds.length → V (i + j) = V' (i + j)) → dFinV V i ds e = dFinV V' i ds e
  | [], _, _, _ => rfl
  | d :: ds, i, e, h => by
    have h0 := h 0 (by simp)
    have h1 : ∀ e, dFinV V (i + 1) ds e = dFinV V' (i + 1) ds e := fun e => dFinV_congr fun j hj => by
      have := h (j + 1) (by simp; omega)
      rwa [show i + 1 + j = i + (j + 1) by omega]
    simp only [Nat.add_zero] at h0
    simp only [dFinV, h0, h1]

theorem allD_intro {F : Nat → DI → Prop} : ∀ {ds : List DI} {i : Nat}, (∀ (j : Nat) d, ds[j]? = some d → F (i + j) d) → allD i ds F
  | [], _, _ => trivial
  | d :: ds, i, h => ⟨by simpa using h 0 d rfl, allD_intro fun j d' hj => by
      have := h (j + 1) d' (by simpa using hj)
      rwa [show i + 1 + j = i + (j + 1) by omega]⟩

theorem goV_of_step {P : Program} {e : Env} {d : DI} {σ : St} {F Next : Go.Hl.D → St → Prop} (h : StepV P e d σ Next) (hF : ∀ x s, Next x s → F x s) : goV P e d σ F := by
  unfold goV
  cases h with
  | op hg hst hp =>
    rw [hg]
    show opH _ _ _
    unfold opH
    split
    · rename_i hop
      rw [hop] at hst
      cases hst
    · rw [hst]
      exact ⟨hp, hF _ _ ⟨rfl, rfl⟩⟩
  | not hg =>
    rw [hg]
    exact hF _ _ ⟨rfl, rfl⟩
  | call hop hg hc =>
    rw [hg, hop]
    exact ⟨_, _, _, rfl, hc, hF⟩

theorem goV_mono {P : Program} {e : Env} {d : DI} {σ : St} {F G : Go.Hl.D → St → Prop} (h : goV P e d σ F) (hfg : ∀ x s, F x s → G x s) : goV P e d σ G := by
  obtain ⟨Next, h1, h2⟩ := goV_step h
  exact goV_of_step h1 fun x s hx => hfg x s (h2 x s hx)

section
variable {M : Md} {base : HPost} {kont : List It} {D : List DI} {env : Env} {σ : St}

theorem hx_drawK (vals : List Go.Hl.D) (st : (Nat → Bool) → St) (hu : (D.all fun d => d.uses.all fun u => decide (u.2 < M.nt) || d.anc.testBit (u.2 - M.nt)) = true) (h0 : st (fun _ => false) = σ)
    (hs : ∀ L, (∀ i d, D[i]? = some d → L i = true → ∀ j, d.anc.testBit j = true → L j = true) → allD 0 D fun i d => L i = false → (∀ j, d.anc.testBit j = true → L j = true) →
      goV M.P (useV M.nt env (valV vals) d.uses) d (st L) fun x σ' => x = valV vals i ∧ σ' = st (upd L i true))
    (hfin : ∀ L, (∀ i, i < D.length → L i = true) → HX M base kont (dFinV (valV vals) 0 D (lowE M.nt env)) (st L)) : HX M base (.code (.draw D) :: kont) env σ := by
  refine hx_drawS (fun L V σ' => (∀ j, L j = true → V j = valV vals j) ∧ σ' = st L ∧ (∀ i d, D[i]? = some d → L i = true → ∀ j, d.anc.testBit j = true → L j = true))
    ⟨(fun _ h => by cases h), h0.symm, (fun _ _ _ h => by cases h)⟩ ?_ ?_
  · rintro L V σ' ⟨hV, rfl, hC⟩
    have h1 := hs L hC
    refine allD_intro fun i d hd hi ha => ?_
    rw [Nat.zero_add] at hi ⊢
    have h2 := allD_spec h1 i d hd
    rw [Nat.zero_add] at h2
    have he : useV M.nt env V d.uses = useV M.nt env (valV vals) d.uses := useV_congr fun u hu' hn => by
      have h3 := List.all_eq_true.1 hu d (List.mem_of_getElem? hd)
      have h4 := List.all_eq_true.1 h3 u hu'
      simp only [Bool.or_eq_true, decide_eq_true_eq] at h4
      rcases h4 with h4 | h4
      · omega
      · exact hV _ (ha _ h4)
    rw [he]
    refine goV_mono (h2 hi ha) ?_
    rintro x s ⟨rfl, rfl⟩
    refine ⟨fun j hj => ?_, rfl, fun k dk hk hLk j hj => ?_⟩
    · simp only [upd] at hj ⊢
      split
      · rename_i e; rw [e]
      · rename_i e; rw [if_neg e] at hj; exact hV j hj
    · simp only [upd] at hLk ⊢
      split
      · rfl
      · rename_i e
        split at hLk
        · rename_i e2
          subst e2
          obtain rfl := Option.some.inj (hd.symm.trans hk)
          exact ha j hj
        · exact hC k dk hk hLk j hj
  · rintro L V σ' hall ⟨hV, rfl, _⟩
    rw [dFinV_congr (V' := valV vals) fun j hj => by rw [Nat.zero_add]; exact hV j (hall j hj)]
    exact hfin L hall

end

end Go.Hl
