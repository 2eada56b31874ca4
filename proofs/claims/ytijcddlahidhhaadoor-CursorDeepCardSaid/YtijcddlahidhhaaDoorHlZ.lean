/-
  Small helpers: what counts and stops; a function's end with its result in a variable.
-/
import Derived.Test.YtijcddlahidhhaaDoorHlN
import Derived.IntWalk
set_option linter.unusedSectionVars false
set_option linter.unusedVariables false
namespace Go.Hl
open Go

def IterAt (P : Program) (f : Nat) (A : D → List D) {X : Type} (enc : X → List D) (xs : List X) (gl : Nat → Option (List D)) : Prop :=
  ∀ (tk : Tk X) (c : tk.C) (y : D), (tk.T c).glob = gl → tk.oks c xs → tk.Takes P enc y → HCalls P f (A y) (tk.T c) fun _ σ' => σ' = tk.T (tk.run c xs).1
theorem Iter.at {P : Program} {f : Nat} {A : D → List D} {X : Type} {enc : X → List D} {xs : List X} (h : Iter P f A enc xs) (gl : Nat → Option (List D)) : IterAt P f A enc xs gl := fun tk c y _ => h tk c y

section
variable {M : Md} {base : HPost} {k : List It} {env : Env} {σ : St}
theorem hx_range_foldA {f : X} {ps : List Nat} {asg body : HC} {fn : Nat} {caps : List D} {T C : Type} {enc : T → List D} {xs : List T} (S : C → St) (ok : C → T → Prop) (step : C → T → C × Option HC) (c0 : C)
    (hf : evX σ env f = .func fn caps) (hbody : hasBody M.P fn = true) (hin : ∀ id l, M.r = some (id, l) → ∃ nt e p a b st, σ.obj id = some (.loop nt e p a b st))
    (it : IterAt M.P fn (fun y => y :: caps) enc xs σ.glob) (hS : S c0 = σ) (hnext : ∀ c, (S c).next = σ.next) (hglob : ∀ c c', (S c).glob = (S c').glob) (hwf : ∀ c, (S c).wf) (he : ∀ t, (look env t).lt σ.next)
    (hok : rngOks ok step c0 xs) (hlen : ∀ x, (enc x).length = ps.length) (hps : ∀ p ∈ ps, p < M.nt)
    (round : ∀ c x τ, ok c x → σ.next + 1 ≤ τ.next → τ.wf → τ.glob = (S c).glob → Round M.P M.nt σ.next env ps asg body (enc x) (mix (σ.next + 1) ((S c).new (.loop M.nt env ps asg body .ready)) τ)
      fun d σ' => d = .bool (step c x).2.isNone ∧ σ' = mix (σ.next + 1) ((S (step c x).1).new (.loop M.nt env ps asg body (.ofJump (step c x).2))) τ)
    (hend : RangeEnd M base k env (S (rngRun step c0 xs).1).bump (rngRun step c0 xs).2) :
    HX M base (.code (.range f ps asg body) :: k) env σ := by
  refine hx_range hf hbody hin ?_
  let tk := rngTk S σ.next M.nt env ps asg body ok step hnext hglob hwf he
  have h0 : tk.T (c0, .ready) = σ.new (.loop M.nt env ps asg body .ready) := by
    show (S c0).new _ = _
    rw [hS]
  rw [← h0]
  refine (it tk (c0, .ready) _ (by rw [h0]; rfl) (rngTk_oks xs c0 hok) ⟨by simp only [D.lt]; exact Nat.lt_succ_self _, rfl, ?_⟩).mono ?_
  · rintro ⟨c, st⟩ x τ hlow ⟨rfl, hk⟩
    have hlow' : Low (σ.next + 1) ((S c).new (.loop M.nt env ps asg body .ready)) τ := hlow
    have hob : τ.obj σ.next = some (.loop M.nt env ps asg body .ready) := by
      rw [hlow'.obj _ (Nat.lt_succ_self _), ← hnext c, St.new_same]
    refine hcallD_yield hob (hlen x) hps fun M' h1 h2 h3 h4 h5 h6 => ?_
    have := round c x τ hk hlow'.next h5 hlow'.glob M' h1 h2 h3
    rw [hlow'.eq] at this
    exact this h4 h5 h6
  · rintro d σ' rfl
    rw [rngTk_run]
    refine ⟨.ofJump (rngRun step c0 xs).2, ?_, ?_⟩
    · show ((S _).new _).obj σ.next = _
      rw [← hnext (rngRun step c0 xs).1, St.new_same]
    · have hd : ∀ st, ((S (rngRun step c0 xs).1).new (.loop M.nt env ps asg body st)).del σ.next = (S (rngRun step c0 xs).1).bump := fun st => by
        refine St.ext' (fun j => ?_) rfl rfl
        simp only [St.obj_del, St.obj_new, St.obj_bump, hnext]
        split
        · rename_i e
          rw [(hwf _).top (by rw [hnext, e]; exact Nat.le_refl _)]
        · rfl
      cases hj : (rngRun step c0 xs).2 with
      | none => rw [hj] at hend; simp only [LSt.ofJump]; show HX M base k env (((S _).new _).del σ.next); rw [hd]; exact hend
      | some j => rw [hj] at hend; simp only [LSt.ofJump]; show HX M base (.code j :: k) env (((S _).new _).del σ.next); rw [hd]; exact hend
end

end Go.Hl
