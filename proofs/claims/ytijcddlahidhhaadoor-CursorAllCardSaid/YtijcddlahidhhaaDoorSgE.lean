/-
  Layer 5: names and numbers.
-/
import Derived.Test.YtijcddlahidhhaaDoorHlS
import Derived.Test.YtijcddlahidhhaaDoorHlM
import Derived.IntWalk
import Derived.Lib.Bytealg
import Derived.Lib.Index
import Derived.KernelRfl
import Derived.Test.YtijcddlahidhhaaDoorHlP
import Derived.Test.YtijcddlahidhhaaDoorCodes
set_option linter.unusedSectionVars false
set_option linter.unusedVariables false
set_option linter.unusedSimpArgs false
set_option maxRecDepth 100000
namespace Go.Hl
open Go Go.Proofs

def numV (s : ByteArray) : Int := match rNumD s with | some n => n | none => 0
def numE (s : ByteArray) : Int := match rNumD s with | some n => 0 | none => 2

theorem arr_eq (l : List UInt8) (s : ByteArray) : (⟨l.toArray⟩ : ByteArray) = s ↔ l = s.data.toList := by
  constructor
  · rintro rfl
    rfl
  · rintro rfl
    cases s
    simp

theorem num_none {s : ByteArray} (h : ∀ n : Nat, Lib.atoiAll s.data.toList = .ok (n : Int) → s.data.toList.length ≤ 10 → n ≤ 2147483647 → Lib.itoa (n : Int) = s.data.toList → False) : rNumD s = none := by
  cases hn : rNumD s with
  | none => rfl
  | some n =>
    obtain ⟨h1, h2, h3, h4⟩ := num_is hn
    exact (h n h1 h2 h3 h4).elim

theorem number_calls (s : ByteArray) (hs : s.size ≤ 140737488355328) (σ : St) (hg : GK σ) : HCalls Tryd.prog 60 [.str s] σ (fun d σ' => d = .tuple [.int .i64 (numV s), erD (numE s)] ∧ σ' = σ) := by
  refine hcalls_body (fn := Tryd.f60) rfl c60 (by simp [h60]) (by simp [h60, Tryd.f60]) ?_
  intro M hP hr hnt hnx hwf hlt
  simp only [h60, argEnv]
  have hlen : s.data.toList.length = s.size := by simp
  refine hgo_sound 60 ?_
  simp -implicitDefEqProofs (maxSteps := 1000000) only [simpS, ↓condJ_true, ↓condJ_false, ↓reduceIte, Nat.reduceEqDiff, Nat.reduceLT, Nat.reduceLeDiff, reduceCtorEq, Nat.reduceAdd, Nat.reduceSub, noneS, listS, implies_true, forall_const, ne_eq]
  refine hx_call (f := .fn 67) rfl (by rw [hP]; exact hcallD_func (atoi_calls s hs _ hg)) ?_
  rintro _ σ2 ⟨rfl, h⟩
  subst σ2
  unfold atoiD
  cases ha : Lib.atoiAll s.data.toList with
  | range =>
    have hno : rNumD s = none := num_none fun n e1 e2 e3 e4 => by
      rw [ha] at e1; cases e1
    simp only [numV, numE, hno]
    refine hgo_sound 60 ?_
    simp -implicitDefEqProofs (maxSteps := 1000000) only [simpS, ↓condJ_true, ↓condJ_false, ↓reduceIte, Nat.reduceEqDiff, Nat.reduceLT, Nat.reduceLeDiff, reduceCtorEq, Nat.reduceAdd, Nat.reduceSub, noneS, listS, implies_true, forall_const, ne_eq, erD]
    exact fpost_pure (σ0 := σ) (.inr rfl) (by rw [hnx]; exact Nat.le_refl _) hwf (Sub.refl σ) rfl trivial ⟨trivial, trivial, trivial⟩ ⟨rfl, rfl⟩
  | ok v =>
    by_cases q1 : (s.size : Int) > 10
    · have d1 : decide ((s.size : Int) > 10) = true := by simp [q1]
      have hno : rNumD s = none := num_none fun n e1 e2 e3 e4 => by
        omega
      simp only [numV, numE, hno]
      refine hgo_sound 60 ?_
      simp -implicitDefEqProofs (maxSteps := 1000000) only [simpS, ↓condJ_true, ↓condJ_false, ↓reduceIte, Nat.reduceEqDiff, Nat.reduceLT, Nat.reduceLeDiff, reduceCtorEq, Nat.reduceAdd, Nat.reduceSub, noneS, listS, implies_true, forall_const, ne_eq, erD, d1]
      exact fpost_pure (σ0 := σ) (.inr rfl) (by rw [hnx]; exact Nat.le_refl _) hwf (Sub.refl σ) rfl trivial ⟨trivial, trivial, trivial⟩ ⟨rfl, rfl⟩
    have d1 : decide ((s.size : Int) > 10) = false := by simp; omega
    by_cases q2 : v < 0
    · have d2 : decide (v < 0) = true := by simp [q2]
      have hno : rNumD s = none := num_none fun n e1 e2 e3 e4 => by
        rw [ha] at e1; injection e1 with e1; omega
      simp only [numV, numE, hno]
      refine hgo_sound 60 ?_
      simp -implicitDefEqProofs (maxSteps := 1000000) only [simpS, ↓condJ_true, ↓condJ_false, ↓reduceIte, Nat.reduceEqDiff, Nat.reduceLT, Nat.reduceLeDiff, reduceCtorEq, Nat.reduceAdd, Nat.reduceSub, noneS, listS, implies_true, forall_const, ne_eq, erD, d1, d2]
      exact fpost_pure (σ0 := σ) (.inr rfl) (by rw [hnx]; exact Nat.le_refl _) hwf (Sub.refl σ) rfl trivial ⟨trivial, trivial, trivial⟩ ⟨rfl, rfl⟩
    have d2 : decide (v < 0) = false := by simp; omega
    by_cases q3 : v > 2147483647
    · have d3 : decide (v > 2147483647) = true := by simp [q3]
      have hno : rNumD s = none := num_none fun n e1 e2 e3 e4 => by
        rw [ha] at e1; injection e1 with e1; omega
      simp only [numV, numE, hno]
      refine hgo_sound 60 ?_
      simp -implicitDefEqProofs (maxSteps := 1000000) only [simpS, ↓condJ_true, ↓condJ_false, ↓reduceIte, Nat.reduceEqDiff, Nat.reduceLT, Nat.reduceLeDiff, reduceCtorEq, Nat.reduceAdd, Nat.reduceSub, noneS, listS, implies_true, forall_const, ne_eq, erD, d1, d2, d3]
      exact fpost_pure (σ0 := σ) (.inr rfl) (by rw [hnx]; exact Nat.le_refl _) hwf (Sub.refl σ) rfl trivial ⟨trivial, trivial, trivial⟩ ⟨rfl, rfl⟩
    have d3 : decide (v > 2147483647) = false := by simp; omega
    refine hgo_sound 60 ?_
    simp -implicitDefEqProofs (maxSteps := 1000000) only [simpS, ↓condJ_true, ↓condJ_false, ↓reduceIte, Nat.reduceEqDiff, Nat.reduceLT, Nat.reduceLeDiff, reduceCtorEq, Nat.reduceAdd, Nat.reduceSub, noneS, listS, implies_true, forall_const, ne_eq, d1, d2, d3]
    refine hx_call (f := .fn 68) rfl (by rw [hP]; exact hcallD_func (itoa_calls v (by omega) (by omega) _ hg)) ?_
    rintro _ σ2 ⟨rfl, h⟩
    subst σ2
    by_cases q4 : (⟨(Lib.itoa v).toArray⟩ : ByteArray) = s
    · have d4 : decide ((⟨(Lib.itoa v).toArray⟩ : ByteArray) = s) = true := by simp [q4]
      have hy := is_num (s := s) (v := v) (by omega) (by omega) (by omega) ((arr_eq _ _).1 q4)
      have hv : ((v.toNat : Nat) : Int) = v := by omega
      simp only [numV, numE, hy, hv]
      refine hgo_sound 60 ?_
      simp -implicitDefEqProofs (maxSteps := 1000000) only [simpS, ↓condJ_true, ↓condJ_false, ↓reduceIte, Nat.reduceEqDiff, Nat.reduceLT, Nat.reduceLeDiff, reduceCtorEq, Nat.reduceAdd, Nat.reduceSub, noneS, listS, implies_true, forall_const, ne_eq, d4, erD]
      exact fpost_pure (σ0 := σ) (.inr rfl) (by rw [hnx]; exact Nat.le_refl _) hwf (Sub.refl σ) rfl trivial ⟨trivial, trivial, trivial⟩ ⟨rfl, rfl⟩
    · have d4 : decide ((⟨(Lib.itoa v).toArray⟩ : ByteArray) = s) = false := by simp [q4]
      have hno : rNumD s = none := num_none fun n e1 e2 e3 e4 => by
        exact q4 ((arr_eq _ _).2 (by rw [ha] at e1; injection e1 with e1; rw [e1]; exact e4))
      simp only [numV, numE, hno]
      refine hgo_sound 60 ?_
      simp -implicitDefEqProofs (maxSteps := 1000000) only [simpS, ↓condJ_true, ↓condJ_false, ↓reduceIte, Nat.reduceEqDiff, Nat.reduceLT, Nat.reduceLeDiff, reduceCtorEq, Nat.reduceAdd, Nat.reduceSub, noneS, listS, implies_true, forall_const, ne_eq, erD, d4]
      exact fpost_pure (σ0 := σ) (.inr rfl) (by rw [hnx]; exact Nat.le_refl _) hwf (Sub.refl σ) rfl trivial ⟨trivial, trivial, trivial⟩ ⟨rfl, rfl⟩
  | _ =>
    have hno : rNumD s = none := num_none fun n e1 e2 e3 e4 => by
      rw [ha] at e1; cases e1
    simp only [numV, numE, hno]
    refine hgo_sound 60 ?_
    simp -implicitDefEqProofs (maxSteps := 1000000) only [simpS, ↓condJ_true, ↓condJ_false, ↓reduceIte, Nat.reduceEqDiff, Nat.reduceLT, Nat.reduceLeDiff, reduceCtorEq, Nat.reduceAdd, Nat.reduceSub, noneS, listS, implies_true, forall_const, ne_eq, erD]
    exact fpost_pure (σ0 := σ) (.inr rfl) (by rw [hnx]; exact Nat.le_refl _) hwf (Sub.refl σ) rfl trivial ⟨trivial, trivial, trivial⟩ ⟨rfl, rfl⟩

end Go.Hl
set_option linter.unusedSectionVars false
set_option linter.unusedVariables false
namespace Go.Hl
open Go

def IterAt (P : Program) (f : Nat) (A : D → List D) {X : Type} (enc : X → List D) (xs : List X) (gl : Nat → Option (List D)) : Prop :=
  ∀ (tk : Tk X) (c : tk.C) (y : D), (tk.T c).glob = gl → tk.oks c xs → tk.Takes P enc y → HCalls P f (A y) (tk.T c) fun _ σ' => σ' = tk.T (tk.run c xs).1
theorem Iter.at {P : Program} {f : Nat} {A : D → List D} {X : Type} {enc : X → List D} {xs : List X} (h : Iter P f A enc xs) (gl : Nat → Option (List D)) : IterAt P f A enc xs gl := fun tk c y _ => h tk c y

section
variable {M : Md} {base : HPost} {k : List It} {env : Env} {σ : St}
theorem hx_range_foldA {f : X} {ps : List Nat} {asg body : HC} {fn : Nat} {caps : List D} {T C : Type} {enc : T → List D} {xs : List T} (S : C → St) (ok : C → T → Prop) (step : C → T → C × Option HC) (c0 : C)
    (hf : evX σ env f = .func fn caps) (hbody : hasBody M.P fn = true) (hin : ∀ id l, M.r = some (id, l) → ∃ nt e p a b st, σ.obj id = some (.loop nt e p a b st))
    (it : IterAt M.P fn (fun y => y :: caps) enc xs σ.glob) (hS : S c0 = σ) (hnext : ∀ c, (S c).next = σ.next) (hglob : ∀ c c', (S c).glob = (S c').glob) (hwf : ∀ c, (S c).wf) (he : ∀ t, (look env t).lt σ.next)
    (hok : rngOks ok step c0 xs) (hlen : ∀ x, (enc x).length = ps.length) (hps : ∀ p ∈ ps, p < M.nt)
    (round : ∀ c x τ, ok c x → σ.next + 1 ≤ τ.next → τ.wf → τ.glob = (S c).glob → Round M.P M.nt σ.next env ps asg body (enc x) (mix (σ.next + 1) ((S c).new (.loop M.nt env ps asg body .ready)) τ)
      fun d σ' => d = .bool (step c x).2.isNone ∧ σ' = mix (σ.next + 1) ((S (step c x).1).new (.loop M.nt env ps asg body (.ofJump (step c x).2))) τ)
    (hend : RangeEnd M base k env (S (rngRun step c0 xs).1).bump (rngRun step c0 xs).2) :
    HX M base (.code (.range f ps asg body) :: k) env σ := by
  refine hx_range hf hbody hin ?_
  let tk := rngTk S σ.next M.nt env ps asg body ok step hnext hglob hwf he
  have h0 : tk.T (c0, .ready) = σ.new (.loop M.nt env ps asg body .ready) := by
    show (S c0).new _ = _
    rw [hS]
  rw [← h0]
  refine (it tk (c0, .ready) _ (by rw [h0]; rfl) (rngTk_oks xs c0 hok) ⟨by simp only [D.lt]; exact Nat.lt_succ_self _, rfl, ?_⟩).mono ?_
  · rintro ⟨c, st⟩ x τ hlow ⟨rfl, hk⟩
    have hlow' : Low (σ.next + 1) ((S c).new (.loop M.nt env ps asg body .ready)) τ := hlow
    have hob : τ.obj σ.next = some (.loop M.nt env ps asg body .ready) := by
      rw [hlow'.obj _ (Nat.lt_succ_self _), ← hnext c, St.new_same]
    refine hcallD_yield hob (hlen x) hps fun M' h1 h2 h3 h4 h5 h6 => ?_
    have := round c x τ hk hlow'.next h5 hlow'.glob M' h1 h2 h3
    rw [hlow'.eq] at this
    exact this h4 h5 h6
  · rintro d σ' rfl
    rw [rngTk_run]
    refine ⟨.ofJump (rngRun step c0 xs).2, ?_, ?_⟩
    · show ((S _).new _).obj σ.next = _
      rw [← hnext (rngRun step c0 xs).1, St.new_same]
    · have hd : ∀ st, ((S (rngRun step c0 xs).1).new (.loop M.nt env ps asg body st)).del σ.next = (S (rngRun step c0 xs).1).bump := fun st => by
        refine St.ext' (fun j => ?_) rfl rfl
        simp only [St.obj_del, St.obj_new, St.obj_bump, hnext]
        split
        · rename_i e
          rw [(hwf _).top (by rw [hnext, e]; exact Nat.le_refl _)]
        · rfl
      cases hj : (rngRun step c0 xs).2 with
      | none => rw [hj] at hend; simp only [LSt.ofJump]; show HX M base k env (((S _).new _).del σ.next); rw [hd]; exact hend
      | some j => rw [hj] at hend; simp only [LSt.ofJump]; show HX M base (.code j :: k) env (((S _).new _).del σ.next); rw [hd]; exact hend
end

end Go.Hl
set_option linter.unusedSectionVars false
set_option linter.unusedVariables false
set_option linter.unusedSimpArgs false
set_option maxRecDepth 100000
namespace Go.Hl
open Go Go.Proofs Go.RowKit

def lenTo : List UInt8 → Nat
  | [] => 0
  | b :: r => if b = 10 then 0 else lenTo r + 1

theorem lenTo_le : ∀ l, lenTo l ≤ l.length
  | [] => Nat.le_refl _
  | b :: r => by
    have := lenTo_le r
    simp only [lenTo]
    split
    · omega
    · simp only [List.length_cons]; omega

theorem indexByte_lenTo : ∀ l : List UInt8, Lib.indexByte l 10 = if lenTo l < l.length then (lenTo l : Int) else -1
  | [] => by simp [Lib.indexByte, lenTo]
  | b :: r => by
    have ih := indexByte_lenTo r
    have hle := lenTo_le r
    by_cases hb : b = 10
    · subst hb
      simp [Lib.indexByte, lenTo]
    · have hb' : (b == 10) = false := by simpa using hb
      simp only [Lib.indexByte, lenTo, hb', if_neg hb, ih, List.length_cons, Bool.false_eq_true, if_false]
      by_cases h : lenTo r < r.length
      · rw [if_pos h, if_pos (show lenTo r + 1 < r.length + 1 by omega)]
        have h1 : ((lenTo r : Int) == -1) = false := by simp
        rw [h1]
        simp
      · rw [if_neg h, if_neg (show ¬ lenTo r + 1 < r.length + 1 by omega)]
        rfl

theorem indexByteString_calls (s : ByteArray) (b : UInt8) (σ : St) : HCalls Tryd.prog 71 [.str s, byD b] σ (fun d σ' => d = .int .i64 (Lib.indexByte s.data.toList b) ∧ σ' = σ) := by
  intro g w vs hr hl
  simp only [RL, R] at hl
  obtain ⟨_, _, rfl, rfl, _, _, rfl, rfl, rfl⟩ := hl
  show NextOk Tryd.prog _ ((callFunc 71 #[.string s, .int .u8 (b.toNat : Int)]).run Tryd.prog w)
  rw [run_callFunc_extern Tryd.func71 (by kernel_rfl) (by kernel_rfl) (by kernel_rfl) (e := Extern.BytealgIndexByte.indexByte) (by kernel_rfl), Lib.run_indexByteString]
  have hb : ((b.toNat : Int)).toNat.toUInt8 = b := by simp
  rw [hb]
  exact ⟨.int .i64 (Lib.indexByte s.data.toList b), g, σ, E.refl g w hr.gw, hr, rfl, rfl, rfl⟩

theorem lindexByte_calls (s : ByteArray) (b : UInt8) (σ : St) : HCalls Tryd.prog 63 [.str s, byD b] σ (fun d σ' => d = .int .i64 (Lib.indexByte s.data.toList b) ∧ σ' = σ) := by
  refine hcalls_body (fn := Tryd.f63) rfl c63 (by simp [h63]) (by simp [h63, Tryd.f63]) ?_
  intro M hP hr hnt hnx hwf hlt
  simp only [h63, argEnv]
  refine hgo_sound 60 ?_
  simp -implicitDefEqProofs (maxSteps := 1000000) only [simpS, ↓condJ_true, ↓condJ_false, ↓reduceIte, Nat.reduceEqDiff, Nat.reduceLT, Nat.reduceLeDiff, reduceCtorEq, Nat.reduceAdd, Nat.reduceSub, noneS, listS, implies_true, forall_const, ne_eq]
  refine hx_call (f := .fn 71) rfl (by rw [hP]; exact hcallD_func (indexByteString_calls s b _)) ?_
  rintro _ σ2 ⟨rfl, h⟩
  subst σ2
  refine hgo_sound 60 ?_
  simp -implicitDefEqProofs (maxSteps := 1000000) only [simpS, ↓condJ_true, ↓condJ_false, ↓reduceIte, Nat.reduceEqDiff, Nat.reduceLT, Nat.reduceLeDiff, reduceCtorEq, Nat.reduceAdd, Nat.reduceSub, noneS, listS, implies_true, forall_const, ne_eq]
  exact fpost_pure (σ0 := σ) (.inr rfl) (by rw [hnx]; exact Nat.le_refl _) hwf (Sub.refl σ) rfl trivial trivial ⟨rfl, rfl⟩

theorem index1_calls (s : ByteArray) (b : UInt8) (σ : St) : HCalls Tryd.prog 72 [.str s, .str ⟨#[b]⟩] σ (fun d σ' => d = .int .i64 (Lib.indexByte s.data.toList b) ∧ σ' = σ) := by
  refine hcalls_body (fn := Tryd.f72) rfl c72 (by simp [h72]) (by simp [h72, Tryd.f72]) ?_
  intro M hP hr hnt hnx hwf hlt
  simp only [h72, argEnv]
  have h1 : ((⟨#[b]⟩ : ByteArray).size : Int) = 1 := rfl
  have h2 : (⟨#[b]⟩ : ByteArray).data.getD (Int.toNat 0) 0 = b := rfl
  have h3 : ((1 : Int) == 0) = false := rfl
  refine hgo_sound 60 ?_
  simp -implicitDefEqProofs (maxSteps := 1000000) only [simpS, ↓condJ_true, ↓condJ_false, ↓reduceIte, Nat.reduceEqDiff, Nat.reduceLT, Nat.reduceLeDiff, reduceCtorEq, Nat.reduceAdd, Nat.reduceSub, noneS, listS, implies_true, forall_const, ne_eq, h1, h2, h3, beq_self_eq_true, Int.le_refl, show (0 : Int) < 1 by decide]
  refine ⟨fun h => ?_, fun _ => ?_⟩
  · have h' : (⟨#[b]⟩ : ByteArray) = s := by simpa using h
    subst h'
    exact fpost_pure (σ0 := σ) (.inr rfl) (by rw [hnx]; exact Nat.le_refl _) hwf (Sub.refl σ) rfl trivial trivial ⟨by simp [tupD, look, Lib.indexByte], rfl⟩
  · skip
    refine hx_call (f := .fn 63) rfl (by rw [hP]; exact hcallD_func (lindexByte_calls s b _)) ?_
    rintro _ σ2 ⟨rfl, h⟩
    subst σ2
    refine hgo_sound 60 ?_
    simp -implicitDefEqProofs (maxSteps := 1000000) only [simpS, ↓condJ_true, ↓condJ_false, ↓reduceIte, Nat.reduceEqDiff, Nat.reduceLT, Nat.reduceLeDiff, reduceCtorEq, Nat.reduceAdd, Nat.reduceSub, noneS, listS, implies_true, forall_const, ne_eq]
    exact fpost_pure (σ0 := σ) (.inr rfl) (by rw [hnx]; exact Nat.le_refl _) hwf (Sub.refl σ) rfl trivial trivial ⟨rfl, rfl⟩

def cutL (t : ByteArray) : List D :=
  let n := lenTo t.data.toList
  if n < t.size then [.str (t.extract 0 n), .str (t.extract (n + 1) t.size), .bool true] else [.str t, .str ⟨#[]⟩, .bool false]

theorem lcut_calls (t : ByteArray) (ht : t.size ≤ 1099511627776) (σ : St) : HCalls Tryd.prog 64 [.str t, .str ⟨#[10]⟩] σ (fun d σ' => d = .tuple (cutL t) ∧ σ' = σ) := by
  refine hcalls_body (fn := Tryd.f64) rfl c64 (by simp [h64]) (by simp [h64, Tryd.f64]) ?_
  intro M hP hr hnt hnx hwf hlt
  simp only [h64, argEnv]
  have hnt' : M.nt = 23 := hnt
  have h1 : ((⟨#[10]⟩ : ByteArray).size : Int) = 1 := rfl
  have hlen : t.data.toList.length = t.size := by simp
  refine hgo_sound 60 ?_
  simp -implicitDefEqProofs (maxSteps := 1000000) only [simpS, ↓condJ_true, ↓condJ_false, ↓reduceIte, Nat.reduceEqDiff, Nat.reduceLT, Nat.reduceLeDiff, reduceCtorEq, Nat.reduceAdd, Nat.reduceSub, noneS, listS, implies_true, forall_const, ne_eq]
  refine hx_call (f := .fn 72) rfl (by rw [hP]; exact hcallD_func (index1_calls t 10 _)) ?_
  rintro _ σ2 ⟨rfl, h⟩
  subst σ2
  rw [indexByte_lenTo, hlen]
  unfold cutL
  by_cases h : lenTo t.data.toList < t.size
  · simp only [if_pos h]
    have hd : decide ((lenTo t.data.toList : Int) ≥ 0) = true := by simp
    have hw : IntKind.i64.wrap ((lenTo t.data.toList : Int) + 1) = ((lenTo t.data.toList + 1 : Nat) : Int) := by rw [IntWalk.i64_in _ (by omega)]; rfl
    refine hgo_sound 12 ?_
    simp -implicitDefEqProofs (maxSteps := 1000000) only [simpS, ↓condJ_true, ↓condJ_false, ↓reduceIte, Nat.reduceEqDiff, Nat.reduceLT, Nat.reduceLeDiff, reduceCtorEq, Nat.reduceAdd, Nat.reduceSub, noneS, listS, implies_true, forall_const, ne_eq, hd]
    refine hx_drawgo 1 ?_
    simp -implicitDefEqProofs (maxSteps := 3000000) only [drawS, listS, List.getElem?_cons_zero, List.getElem?_cons_succ, List.getElem?_nil, simpS, ↓condJ_true, ↓condJ_false, ↓reduceIte, Nat.reduceEqDiff, Nat.reduceLT, Nat.reduceLeDiff, reduceCtorEq, Nat.reduceAdd, Nat.reduceSub, noneS, listS, implies_true, forall_const, ne_eq, hnt', h1, hw, Int.toNat_natCast]
    refine ⟨by omega, ?_⟩
    refine hgo_sound 60 ?_
    simp -implicitDefEqProofs (maxSteps := 1000000) only [simpS, ↓condJ_true, ↓condJ_false, ↓reduceIte, Nat.reduceEqDiff, Nat.reduceLT, Nat.reduceLeDiff, reduceCtorEq, Nat.reduceAdd, Nat.reduceSub, noneS, listS, implies_true, forall_const, ne_eq]
    exact fpost_pure (σ0 := σ) (.inr rfl) (by rw [hnx]; exact Nat.le_refl _) hwf (Sub.refl σ) rfl trivial ⟨trivial, trivial, trivial, trivial⟩ ⟨rfl, rfl⟩
  · simp only [if_neg h]
    have hd : decide ((-1 : Int) ≥ 0) = false := rfl
    refine hgo_sound 60 ?_
    simp -implicitDefEqProofs (maxSteps := 1000000) only [simpS, ↓condJ_true, ↓condJ_false, ↓reduceIte, Nat.reduceEqDiff, Nat.reduceLT, Nat.reduceLeDiff, reduceCtorEq, Nat.reduceAdd, Nat.reduceSub, noneS, listS, implies_true, forall_const, ne_eq, hd]
    exact fpost_pure (σ0 := σ) (.inr rfl) (by rw [hnx]; exact Nat.le_refl _) hwf (Sub.refl σ) rfl trivial ⟨trivial, trivial, trivial, trivial⟩ ⟨rfl, rfl⟩

theorem cut_calls (t : ByteArray) (ht : t.size ≤ 1099511627776) (σ : St) : HCalls Tryd.prog 55 [.str t, .str ⟨#[10]⟩] σ (fun d σ' => d = .tuple (cutL t) ∧ σ' = σ) := by
  refine hcalls_body (fn := Tryd.f55) rfl c55 (by simp [h55]) (by simp [h55, Tryd.f55]) ?_
  intro M hP hr hnt hnx hwf hlt
  simp only [h55, argEnv]
  refine hgo_sound 60 ?_
  simp -implicitDefEqProofs (maxSteps := 1000000) only [simpS, ↓condJ_true, ↓condJ_false, ↓reduceIte, Nat.reduceEqDiff, Nat.reduceLT, Nat.reduceLeDiff, reduceCtorEq, Nat.reduceAdd, Nat.reduceSub, noneS, listS, implies_true, forall_const, ne_eq]
  refine hx_call (f := .fn 64) rfl (by rw [hP]; exact hcallD_func (lcut_calls t ht _)) ?_
  rintro _ σ2 ⟨rfl, h⟩
  subst σ2
  unfold cutL
  by_cases h : lenTo t.data.toList < t.size
  · simp only [if_pos h]
    refine hgo_sound 60 ?_
    simp -implicitDefEqProofs (maxSteps := 1000000) only [simpS, ↓condJ_true, ↓condJ_false, ↓reduceIte, Nat.reduceEqDiff, Nat.reduceLT, Nat.reduceLeDiff, reduceCtorEq, Nat.reduceAdd, Nat.reduceSub, noneS, listS, implies_true, forall_const, ne_eq]
    exact fpost_pure (σ0 := σ) (.inr rfl) (by rw [hnx]; exact Nat.le_refl _) hwf (Sub.refl σ) rfl trivial ⟨trivial, trivial, trivial, trivial⟩ ⟨rfl, rfl⟩
  · simp only [if_neg h]
    refine hgo_sound 60 ?_
    simp -implicitDefEqProofs (maxSteps := 1000000) only [simpS, ↓condJ_true, ↓condJ_false, ↓reduceIte, Nat.reduceEqDiff, Nat.reduceLT, Nat.reduceLeDiff, reduceCtorEq, Nat.reduceAdd, Nat.reduceSub, noneS, listS, implies_true, forall_const, ne_eq]
    exact fpost_pure (σ0 := σ) (.inr rfl) (by rw [hnx]; exact Nat.le_refl _) hwf (Sub.refl σ) rfl trivial ⟨trivial, trivial, trivial, trivial⟩ ⟨rfl, rfl⟩

end Go.Hl
set_option linter.unusedSectionVars false
set_option linter.unusedVariables false
set_option linter.unusedSimpArgs false
set_option maxRecDepth 100000
namespace Go.Hl
open Go Go.Proofs Go.RowKit

structure GM (σ : St) : Prop where
  gk : GK σ
  ml : ∃ m, σ.glob 1 = some [.int .i64 m]
theorem GM.to {σ σ' : St} (h : GM σ) (e : σ'.glob = σ.glob) : GM σ' := ⟨h.gk.to e, by rw [e]; exact h.ml⟩

theorem linside_calls (b : UInt8) (σ : St) : HCalls Tryd.prog 50 [byD b] σ (fun d σ' => d = .bool (insP b) ∧ σ' = σ) := by
  refine hcalls_body (fn := Tryd.f50) rfl c50 (by simp [h50]) (by simp [h50, Tryd.f50]) ?_
  intro M hP hr hnt hnx hwf hlt
  simp only [h50, argEnv]
  have hnt' : M.nt = 9 := hnt
  refine hgo_sound 60 ?_
  simp -implicitDefEqProofs (maxSteps := 1000000) only [simpS, ↓condJ_true, ↓condJ_false, ↓reduceIte, Nat.reduceEqDiff, Nat.reduceLT, Nat.reduceLeDiff, reduceCtorEq, Nat.reduceAdd, Nat.reduceSub, noneS, listS, implies_true, forall_const, ne_eq]
  refine hx_call (f := .fn 58) rfl (by rw [hP]; exact hcallD_func (letter_calls b _)) ?_
  rintro _ σ2 ⟨rfl, h⟩
  subst σ2
  unfold insP
  cases h1 : isLet b
  · refine hgo_sound 60 ?_
    simp -implicitDefEqProofs (maxSteps := 1000000) only [simpS, ↓condJ_true, ↓condJ_false, ↓reduceIte, Nat.reduceEqDiff, Nat.reduceLT, Nat.reduceLeDiff, reduceCtorEq, Nat.reduceAdd, Nat.reduceSub, noneS, listS, implies_true, forall_const, ne_eq]
    refine hx_call (f := .fn 59) rfl (by rw [hP]; exact hcallD_func (figure_calls b _)) ?_
    rintro _ σ2 ⟨rfl, h⟩
    subst σ2
    refine hgo_sound 60 ?_
    simp -implicitDefEqProofs (maxSteps := 1000000) only [simpS, ↓condJ_true, ↓condJ_false, ↓reduceIte, Nat.reduceEqDiff, Nat.reduceLT, Nat.reduceLeDiff, reduceCtorEq, Nat.reduceAdd, Nat.reduceSub, noneS, listS, implies_true, forall_const, ne_eq]
    exact fpost_pure (σ0 := σ) (.inr rfl) (by rw [hnx]; exact Nat.le_refl _) hwf (by first | exact Sub.refl σ | exact (((Ext.refl _).new _).sub hwf)) rfl trivial (by repeat' (first | trivial | apply And.intro)) ⟨by simp [tupD, look], rfl⟩
  · refine hgo_sound 60 ?_
    simp -implicitDefEqProofs (maxSteps := 1000000) only [simpS, ↓condJ_true, ↓condJ_false, ↓reduceIte, Nat.reduceEqDiff, Nat.reduceLT, Nat.reduceLeDiff, reduceCtorEq, Nat.reduceAdd, Nat.reduceSub, noneS, listS, implies_true, forall_const, ne_eq]
    exact fpost_pure (σ0 := σ) (.inr rfl) (by rw [hnx]; exact Nat.le_refl _) hwf (by first | exact Sub.refl σ | exact (((Ext.refl _).new _).sub hwf)) rfl trivial (by repeat' (first | trivial | apply And.intro)) ⟨by simp [tupD, look], rfl⟩

theorem hasPrefix_calls (s p : ByteArray) (σ : St) : HCalls Tryd.prog 47 [.str s, .str p] σ (fun d σ' => d = .bool (p.data.toList.isPrefixOf s.data.toList) ∧ σ' = σ) := by
  refine hcalls_plain (by kernel_rfl) fun g w vs hr hl => ?_
  simp only [RL, R] at hl
  obtain ⟨u0, us, rfl, rfl, u1, us1, rfl, rfl, rfl⟩ := hl
  refine (Tryd.strings_HasPrefix s p w).mono ?_
  rintro e w' ⟨rfl, rfl⟩
  exact ⟨_, .bool (p.data.toList.isPrefixOf s.data.toList), rfl, E.refl g _ hr.gw, hr, by simp only [R]; rfl, rfl, rfl⟩

theorem lhasPrefix_calls (s p : ByteArray) (σ : St) : HCalls Tryd.prog 54 [.str s, .str p] σ (fun d σ' => d = .bool (p.data.toList.isPrefixOf s.data.toList) ∧ σ' = σ) := by
  refine hcalls_plain (by kernel_rfl) fun g w vs hr hl => ?_
  simp only [RL, R] at hl
  obtain ⟨u0, us, rfl, rfl, u1, us1, rfl, rfl, rfl⟩ := hl
  refine (Tryd.stringslite_HasPrefix s p w).mono ?_
  rintro e w' ⟨rfl, rfl⟩
  exact ⟨_, .bool (p.data.toList.isPrefixOf s.data.toList), rfl, E.refl g _ hr.gw, hr, by simp only [R]; rfl, rfl, rfl⟩

theorem index_calls (s p : ByteArray) (hs : s.size ≤ 1073741824) (σ : St) (hg : GM σ) : HCalls Tryd.prog 65 [.str s, .str p] σ (fun d σ' => d = .int .i64 (Lib.index s.data.toList p.data.toList) ∧ σ' = σ) := by
  refine hcalls_plain (by kernel_rfl) fun g w vs hr hl => ?_
  simp only [RL, R] at hl
  obtain ⟨u0, us, rfl, rfl, u1, us1, rfl, rfl, rfl⟩ := hl
  obtain ⟨m, hm⟩ := hg.ml
  obtain ⟨u, hu, hR⟩ := (hr.glob _ _ hm).cell (i := 0) (d := .int .i64 m) rfl
  simp only [R] at hR
  subst hR
  refine (Tryd.strings_Index s p m w (by omega) hu).mono ?_
  rintro e w' ⟨rfl, rfl⟩
  exact ⟨_, .int .i64 (Lib.index s.data.toList p.data.toList), rfl, E.refl g _ hr.gw, hr, by simp only [R], rfl, rfl⟩

abbrev prnL : List UInt8 := [83, 121, 115, 116, 101, 109, 46, 111, 117, 116, 46, 112, 114, 105, 110, 116, 108, 110]
abbrev sgnL : List UInt8 := [123, 125, 40, 41, 91, 93, 59, 44, 46, 61, 60, 43, 45, 42, 33]

def ix2 : List UInt8 → Option Nat
  | [] => none
  | b :: r => if [42, 47].isPrefixOf (b :: r) then some 0 else (ix2 r).map (· + 1)
theorem index_ix2 : ∀ l : List UInt8, Lib.index l [42, 47] = match ix2 l with | some i => (i : Int) | none => -1
  | [] => rfl
  | b :: r => by
    have ih := index_ix2 r
    simp only [Lib.index, ix2]
    by_cases h : [42, 47].isPrefixOf (b :: r) = true
    · rw [if_pos h, if_pos h]; rfl
    · rw [if_neg h, if_neg h, ih]
      cases hx : ix2 r with
      | none => rfl
      | some i =>
        have : ((i : Int) == -1) = false := by simp
        simp only [Option.map_some, this, Bool.false_eq_true, if_false]
        rfl
theorem ix2_le : ∀ (l : List UInt8) (i : Nat), ix2 l = some i → i + 2 ≤ l.length
  | [], i, h => by cases h
  | b :: r, i, h => by
    simp only [ix2] at h
    split at h
    · rename_i hp
      injection h with h
      subst h
      have := (List.isPrefixOf_iff_prefix.1 hp).length_le
      simpa using this
    · obtain ⟨j, hj, rfl⟩ := Option.map_eq_some_iff.1 h
      have := ix2_le r j hj
      simp only [List.length_cons]
      omega

def prnd (l : List UInt8) : Bool := prnL.isPrefixOf l && (match l.drop 18 with | [] => true | c :: _ => !insP c)
def wordK (s : ByteArray) : Nat := if isKw s then 3 else if isWord s then 4 else if numE s = 0 then 5 else 7
def sgl (c : UInt8) : Bool := decide (Lib.indexByte sgnL c ≥ 0)
abbrev bsL (l : List UInt8) : ByteArray := ⟨l.toArray⟩

def lexN (l : List UInt8) : Nat × Nat :=
  if isBlk (l.headD 0) then (1, runTo isBlk l)
  else if [47, 47].isPrefixOf l then (2, lenTo l)
  else if [47, 42].isPrefixOf l then (match ix2 (l.drop 2) with | some i => (2, i + 4) | none => (7, l.length))
  else if prnd l then (3, 18)
  else if insP (l.headD 0) then (wordK (bsL (l.take (runTo insP l))), runTo insP l)
  else if [38, 38].isPrefixOf l then (6, 2)
  else if sgl (l.headD 0) then (6, 1) else (7, 1)

theorem runTo_le (p : UInt8 → Bool) (l : List UInt8) : runTo p l ≤ l.length := (runTo_all p l).1
theorem runTo_pos (p : UInt8 → Bool) : ∀ (l : List UInt8), l ≠ [] → p (l.headD 0) = true → 1 ≤ runTo p l
  | [], h, _ => absurd rfl h
  | b :: r, _, h => by
    simp only [List.headD_cons] at h
    simp only [runTo, h, if_true]
    omega

theorem lexN_len (l : List UInt8) (h : l ≠ []) : 1 ≤ (lexN l).2 ∧ (lexN l).2 ≤ l.length := by
  have hl : 1 ≤ l.length := by cases l with | nil => exact absurd rfl h | cons => simp
  unfold lexN
  split
  · rename_i hb
    exact ⟨runTo_pos _ l h hb, runTo_le _ l⟩
  split
  · rename_i hp
    obtain ⟨t, rfl⟩ := List.isPrefixOf_iff_prefix.1 hp
    have := lenTo_le ([47, 47] ++ t)
    refine ⟨?_, this⟩
    simp [lenTo]
  split
  · rename_i hp
    split
    · rename_i i hi
      have := ix2_le _ _ hi
      rw [List.length_drop] at this
      simp only
      omega
    · exact ⟨hl, Nat.le_refl _⟩
  split
  · rename_i hp
    simp only [prnd, Bool.and_eq_true] at hp
    have := (List.isPrefixOf_iff_prefix.1 hp.1).length_le
    simp only [List.length_cons, List.length_nil] at this
    exact ⟨by decide, by simp only; omega⟩
  split
  · rename_i hb
    exact ⟨runTo_pos _ l h hb, runTo_le _ l⟩
  split
  · rename_i hp
    have := (List.isPrefixOf_iff_prefix.1 hp).length_le
    simp only [List.length_cons, List.length_nil] at this
    exact ⟨by decide, by simp only; omega⟩
  split <;> exact ⟨Nat.le_refl _, hl⟩

theorem len_list (s : ByteArray) : s.data.toList.length = s.size := by simp
theorem ex_drop (s : ByteArray) (a : Nat) : (s.extract a s.size).data.toList = s.data.toList.drop a := by
  rw [ByteArray.data_extract]
  simp [List.extract, List.take_of_length_le]
theorem ex_take (s : ByteArray) (n : Nat) : s.extract 0 n = bsL (s.data.toList.take n) := by
  apply ByteArray.ext
  apply Array.toList_inj.1
  rw [ByteArray.data_extract]
  simp [List.extract]

theorem upto_calls (s : ByteArray) (hs : s.size ≤ 1073741824) (σ : St) (hg : GM σ) : HCalls Tryd.prog 56 [.str s, .str ⟨#[42, 47]⟩] σ (fun d σ' => d = .tuple (match ix2 s.data.toList with | some i => [.int .i64 ((i + 2 : Nat) : Int), .bool true] | none => [.int .i64 (s.size : Int), .bool false]) ∧ σ' = σ) := by
  refine hcalls_body (fn := Tryd.f56) rfl c56 (by simp [h56]) (by simp [h56, Tryd.f56]) ?_
  intro M hP hr hnt hnx hwf hlt
  simp only [h56, argEnv]
  refine hgo_sound 60 ?_
  simp -implicitDefEqProofs (maxSteps := 1000000) only [simpS, ↓condJ_true, ↓condJ_false, ↓reduceIte, Nat.reduceEqDiff, Nat.reduceLT, Nat.reduceLeDiff, reduceCtorEq, Nat.reduceAdd, Nat.reduceSub, noneS, listS, implies_true, forall_const, ne_eq]
  refine hx_call (f := .fn 65) rfl (by rw [hP]; exact hcallD_func (index_calls s ⟨#[42, 47]⟩ hs _ hg)) ?_
  rintro _ σ2 ⟨rfl, h⟩
  subst σ2
  have h1 : Lib.index s.data.toList (⟨#[42, 47]⟩ : ByteArray).data.toList = _ := index_ix2 s.data.toList
  rw [h1]
  cases hx : ix2 s.data.toList with
  | none =>
    refine hgo_sound 60 ?_
    simp -implicitDefEqProofs (maxSteps := 1000000) only [simpS, ↓condJ_true, ↓condJ_false, ↓reduceIte, Nat.reduceEqDiff, Nat.reduceLT, Nat.reduceLeDiff, reduceCtorEq, Nat.reduceAdd, Nat.reduceSub, noneS, listS, implies_true, forall_const, ne_eq, show decide ((-1 : Int) < 0) = true by rfl]
    exact fpost_pure (σ0 := σ) (.inr rfl) (by rw [hnx]; exact Nat.le_refl _) hwf (by first | exact Sub.refl σ | exact (((Ext.refl _).new _).sub hwf)) rfl trivial (by repeat' (first | trivial | apply And.intro)) ⟨rfl, rfl⟩
  | some i =>
    have hle := ix2_le _ _ hx
    rw [len_list] at hle
    have hd : decide ((i : Int) < 0) = false := by simp
    have hz : (((⟨#[42, 47]⟩ : ByteArray).size : Nat) : Int) = 2 := rfl
    have hw : IntKind.i64.wrap ((i : Int) + 2) = ((i + 2 : Nat) : Int) := by rw [IntWalk.i64_in _ (by omega)]; rfl
    refine hgo_sound 60 ?_
    simp -implicitDefEqProofs (maxSteps := 1000000) only [simpS, ↓condJ_true, ↓condJ_false, ↓reduceIte, Nat.reduceEqDiff, Nat.reduceLT, Nat.reduceLeDiff, reduceCtorEq, Nat.reduceAdd, Nat.reduceSub, noneS, listS, implies_true, forall_const, ne_eq, hd, hz, hw]
    exact fpost_pure (σ0 := σ) (.inr rfl) (by rw [hnx]; exact Nat.le_refl _) hwf (by first | exact Sub.refl σ | exact (((Ext.refl _).new _).sub hwf)) rfl trivial (by repeat' (first | trivial | apply And.intro)) ⟨rfl, rfl⟩

theorem note_calls (s : ByteArray) (hs : s.size ≤ 1073741824) (hp : ([47, 47] : List UInt8).isPrefixOf s.data.toList || ([47, 42] : List UInt8).isPrefixOf s.data.toList) (σ : St) (hg : GM σ) :
    HCalls Tryd.prog 48 [.str s] σ (fun d σ' => d = .tuple (if ([47, 47] : List UInt8).isPrefixOf s.data.toList then [.int .i64 2, .int .i64 (lenTo s.data.toList : Int)] else match ix2 (s.data.toList.drop 2) with | some i => [.int .i64 2, .int .i64 ((i + 4 : Nat) : Int)] | none => [.int .i64 7, .int .i64 (s.size : Int)]) ∧ σ' = σ) := by
  refine hcalls_body (fn := Tryd.f48) rfl c48 (by simp [h48]) (by simp [h48, Tryd.f48]) ?_
  intro M hP hr hnt hnx hwf hlt
  simp only [h48, argEnv]
  refine hgo_sound 60 ?_
  simp -implicitDefEqProofs (maxSteps := 1000000) only [simpS, ↓condJ_true, ↓condJ_false, ↓reduceIte, Nat.reduceEqDiff, Nat.reduceLT, Nat.reduceLeDiff, reduceCtorEq, Nat.reduceAdd, Nat.reduceSub, noneS, listS, implies_true, forall_const, ne_eq]
  refine hx_call (f := .fn 47) rfl (by rw [hP]; exact hcallD_func (hasPrefix_calls s ⟨#[47, 47]⟩ _)) ?_
  rintro _ σ2 ⟨rfl, h⟩
  subst σ2
  have h1 : (⟨#[47, 47]⟩ : ByteArray).data.toList = [47, 47] := rfl
  rw [h1]
  cases h2 : ([47, 47] : List UInt8).isPrefixOf s.data.toList
  · rw [h2, Bool.false_or] at hp
    have hlen := (List.isPrefixOf_iff_prefix.1 hp).length_le
    rw [len_list] at hlen
    simp only [List.length_cons, List.length_nil] at hlen
    have h02 : (0 : Int) ≤ 2 ∧ (2 : Int) ≤ (s.size : Int) := by omega
    have hz : (s.extract 2 s.size).size = s.size - 2 := by rw [ByteArray.size_extract]; omega
    have hdr := ex_drop s 2
    have htn : (2 : Int).toNat = 2 := rfl
    refine hgo_sound 60 ?_
    simp -implicitDefEqProofs (maxSteps := 1000000) only [simpS, ↓condJ_true, ↓condJ_false, ↓reduceIte, Nat.reduceEqDiff, Nat.reduceLT, Nat.reduceLeDiff, reduceCtorEq, Nat.reduceAdd, Nat.reduceSub, noneS, listS, implies_true, forall_const, ne_eq, h02.1, h02.2, htn]
    refine hx_call (f := .fn 56) rfl (by rw [hP]; exact hcallD_func (upto_calls (s.extract 2 s.size) (by omega) _ hg)) ?_
    rintro _ σ2 ⟨rfl, h⟩
    subst σ2
    rw [hdr]
    cases hx : ix2 (s.data.toList.drop 2) with
    | none =>
      refine hgo_sound 60 ?_
      simp -implicitDefEqProofs (maxSteps := 1000000) only [simpS, ↓condJ_true, ↓condJ_false, ↓reduceIte, Nat.reduceEqDiff, Nat.reduceLT, Nat.reduceLeDiff, reduceCtorEq, Nat.reduceAdd, Nat.reduceSub, noneS, listS, implies_true, forall_const, ne_eq]
      exact fpost_pure (σ0 := σ) (.inr rfl) (by rw [hnx]; exact Nat.le_refl _) hwf (by first | exact Sub.refl σ | exact (((Ext.refl _).new _).sub hwf)) rfl trivial (by repeat' (first | trivial | apply And.intro)) ⟨rfl, rfl⟩
    | some i =>
      have hle := ix2_le _ _ hx
      rw [List.length_drop, len_list] at hle
      have hw : IntKind.i64.wrap (2 + ((i + 2 : Nat) : Int)) = ((i + 4 : Nat) : Int) := by rw [IntWalk.i64_in _ (by omega)]; omega
      refine hgo_sound 60 ?_
      simp -implicitDefEqProofs (maxSteps := 1000000) only [simpS, ↓condJ_true, ↓condJ_false, ↓reduceIte, Nat.reduceEqDiff, Nat.reduceLT, Nat.reduceLeDiff, reduceCtorEq, Nat.reduceAdd, Nat.reduceSub, noneS, listS, implies_true, forall_const, ne_eq, hw]
      exact fpost_pure (σ0 := σ) (.inr rfl) (by rw [hnx]; exact Nat.le_refl _) hwf (by first | exact Sub.refl σ | exact (((Ext.refl _).new _).sub hwf)) rfl trivial (by repeat' (first | trivial | apply And.intro)) ⟨rfl, rfl⟩
  · refine hgo_sound 60 ?_
    simp -implicitDefEqProofs (maxSteps := 1000000) only [simpS, ↓condJ_true, ↓condJ_false, ↓reduceIte, Nat.reduceEqDiff, Nat.reduceLT, Nat.reduceLeDiff, reduceCtorEq, Nat.reduceAdd, Nat.reduceSub, noneS, listS, implies_true, forall_const, ne_eq]
    refine hx_call (f := .fn 55) rfl (by rw [hP]; exact hcallD_func (cut_calls s (by omega) _)) ?_
    rintro _ σ2 ⟨rfl, h⟩
    subst σ2
    have hle := lenTo_le s.data.toList
    rw [len_list] at hle
    unfold cutL
    by_cases h : lenTo s.data.toList < s.size
    · have hz : ((s.extract 0 (lenTo s.data.toList)).size : Int) = (lenTo s.data.toList : Int) := by rw [ByteArray.size_extract]; omega
      simp only [if_pos h]
      refine hgo_sound 60 ?_
      simp -implicitDefEqProofs (maxSteps := 1000000) only [simpS, ↓condJ_true, ↓condJ_false, ↓reduceIte, Nat.reduceEqDiff, Nat.reduceLT, Nat.reduceLeDiff, reduceCtorEq, Nat.reduceAdd, Nat.reduceSub, noneS, listS, implies_true, forall_const, ne_eq, hz]
      exact fpost_pure (σ0 := σ) (.inr rfl) (by rw [hnx]; exact Nat.le_refl _) hwf (by first | exact Sub.refl σ | exact (((Ext.refl _).new _).sub hwf)) rfl trivial (by repeat' (first | trivial | apply And.intro)) ⟨rfl, rfl⟩
    · have hz : (s.size : Int) = (lenTo s.data.toList : Int) := by omega
      simp only [if_neg h]
      refine hgo_sound 60 ?_
      simp -implicitDefEqProofs (maxSteps := 1000000) only [simpS, ↓condJ_true, ↓condJ_false, ↓reduceIte, Nat.reduceEqDiff, Nat.reduceLT, Nat.reduceLeDiff, reduceCtorEq, Nat.reduceAdd, Nat.reduceSub, noneS, listS, implies_true, forall_const, ne_eq, hz]
      exact fpost_pure (σ0 := σ) (.inr rfl) (by rw [hnx]; exact Nat.le_refl _) hwf (by first | exact Sub.refl σ | exact (((Ext.refl _).new _).sub hwf)) rfl trivial (by repeat' (first | trivial | apply And.intro)) ⟨rfl, rfl⟩

theorem lcutPrefix_calls (s p : ByteArray) (σ : St) : HCalls Tryd.prog 66 [.str s, .str p] σ (fun d σ' => d = .tuple (if p.data.toList.isPrefixOf s.data.toList then [.str (s.extract p.size s.size), .bool true] else [.str s, .bool false]) ∧ σ' = σ) := by
  refine hcalls_body (fn := Tryd.f66) rfl c66 (by simp [h66]) (by simp [h66, Tryd.f66]) ?_
  intro M hP hr hnt hnx hwf hlt
  simp only [h66, argEnv]
  refine hgo_sound 60 ?_
  simp -implicitDefEqProofs (maxSteps := 1000000) only [simpS, ↓condJ_true, ↓condJ_false, ↓reduceIte, Nat.reduceEqDiff, Nat.reduceLT, Nat.reduceLeDiff, reduceCtorEq, Nat.reduceAdd, Nat.reduceSub, noneS, listS, implies_true, forall_const, ne_eq]
  refine hx_call (f := .fn 54) rfl (by rw [hP]; exact hcallD_func (lhasPrefix_calls s p _)) ?_
  rintro _ σ2 ⟨rfl, h⟩
  subst σ2
  cases h : p.data.toList.isPrefixOf s.data.toList
  · refine hgo_sound 60 ?_
    simp -implicitDefEqProofs (maxSteps := 1000000) only [simpS, ↓condJ_true, ↓condJ_false, ↓reduceIte, Nat.reduceEqDiff, Nat.reduceLT, Nat.reduceLeDiff, reduceCtorEq, Nat.reduceAdd, Nat.reduceSub, noneS, listS, implies_true, forall_const, ne_eq]
    exact fpost_pure (σ0 := σ) (.inr rfl) (by rw [hnx]; exact Nat.le_refl _) hwf (by first | exact Sub.refl σ | exact (((Ext.refl _).new _).sub hwf)) rfl trivial (by repeat' (first | trivial | apply And.intro)) ⟨rfl, rfl⟩
  · have hle := (List.isPrefixOf_iff_prefix.1 h).length_le
    rw [len_list, len_list] at hle
    have h1 : (0 : Int) ≤ (p.size : Int) ∧ (p.size : Int) ≤ (s.size : Int) := by omega
    refine hgo_sound 60 ?_
    simp -implicitDefEqProofs (maxSteps := 1000000) only [simpS, ↓condJ_true, ↓condJ_false, ↓reduceIte, Nat.reduceEqDiff, Nat.reduceLT, Nat.reduceLeDiff, reduceCtorEq, Nat.reduceAdd, Nat.reduceSub, noneS, listS, implies_true, forall_const, ne_eq, h1.1, h1.2, Int.toNat_natCast]
    exact fpost_pure (σ0 := σ) (.inr rfl) (by rw [hnx]; exact Nat.le_refl _) hwf (by first | exact Sub.refl σ | exact (((Ext.refl _).new _).sub hwf)) rfl trivial (by repeat' (first | trivial | apply And.intro)) ⟨rfl, rfl⟩

theorem cutPrefix_calls (s p : ByteArray) (σ : St) : HCalls Tryd.prog 57 [.str s, .str p] σ (fun d σ' => d = .tuple (if p.data.toList.isPrefixOf s.data.toList then [.str (s.extract p.size s.size), .bool true] else [.str s, .bool false]) ∧ σ' = σ) := by
  refine hcalls_body (fn := Tryd.f57) rfl c57 (by simp [h57]) (by simp [h57, Tryd.f57]) ?_
  intro M hP hr hnt hnx hwf hlt
  simp only [h57, argEnv]
  have hnt' : M.nt = 11 := hnt
  refine hgo_sound 60 ?_
  simp -implicitDefEqProofs (maxSteps := 1000000) only [simpS, ↓condJ_true, ↓condJ_false, ↓reduceIte, Nat.reduceEqDiff, Nat.reduceLT, Nat.reduceLeDiff, reduceCtorEq, Nat.reduceAdd, Nat.reduceSub, noneS, listS, implies_true, forall_const, ne_eq]
  refine hx_call (f := .fn 66) rfl (by rw [hP]; exact hcallD_func (lcutPrefix_calls s p _)) ?_
  rintro _ σ2 ⟨rfl, h⟩
  subst σ2
  split <;> rename_i h
  · refine hgo_sound 60 ?_
    simp -implicitDefEqProofs (maxSteps := 1000000) only [simpS, ↓condJ_true, ↓condJ_false, ↓reduceIte, Nat.reduceEqDiff, Nat.reduceLT, Nat.reduceLeDiff, reduceCtorEq, Nat.reduceAdd, Nat.reduceSub, noneS, listS, implies_true, forall_const, ne_eq]
    exact fpost_pure (σ0 := σ) (.inr rfl) (by rw [hnx]; exact Nat.le_refl _) hwf (by first | exact Sub.refl σ | exact (((Ext.refl _).new _).sub hwf)) rfl trivial (by repeat' (first | trivial | apply And.intro)) ⟨rfl, rfl⟩
  · refine hgo_sound 60 ?_
    simp -implicitDefEqProofs (maxSteps := 1000000) only [simpS, ↓condJ_true, ↓condJ_false, ↓reduceIte, Nat.reduceEqDiff, Nat.reduceLT, Nat.reduceLeDiff, reduceCtorEq, Nat.reduceAdd, Nat.reduceSub, noneS, listS, implies_true, forall_const, ne_eq]
    exact fpost_pure (σ0 := σ) (.inr rfl) (by rw [hnx]; exact Nat.le_refl _) hwf (by first | exact Sub.refl σ | exact (((Ext.refl _).new _).sub hwf)) rfl trivial (by repeat' (first | trivial | apply And.intro)) ⟨rfl, rfl⟩

end Go.Hl
set_option linter.unusedSectionVars false
set_option linter.unusedVariables false
set_option linter.unusedSimpArgs false
set_option maxRecDepth 100000
namespace Go.Hl
open Go Go.Proofs Go.RowKit

theorem headD_at0 (s : ByteArray) : s.data.getD 0 0 = s.data.toList.headD 0 := by
  obtain ⟨⟨l⟩⟩ := s
  cases l <;> rfl

theorem printed_calls (s : ByteArray) (σ : St) : HCalls Tryd.prog 49 [.str s] σ (fun d σ' => d = .bool (prnd s.data.toList) ∧ σ' = σ) := by
  refine hcalls_body (fn := Tryd.f49) rfl c49 (by simp [h49]) (by simp [h49, Tryd.f49]) ?_
  intro M hP hr hnt hnx hwf hlt
  simp only [h49, argEnv]
  have hnt' : M.nt = 21 := hnt
  refine hgo_sound 60 ?_
  simp -implicitDefEqProofs (maxSteps := 1000000) only [simpS, ↓condJ_true, ↓condJ_false, ↓reduceIte, Nat.reduceEqDiff, Nat.reduceLT, Nat.reduceLeDiff, reduceCtorEq, Nat.reduceAdd, Nat.reduceSub, noneS, listS, implies_true, forall_const, ne_eq]
  refine hx_call (f := .fn 57) rfl (by rw [hP]; exact hcallD_func (cutPrefix_calls s ⟨#[83, 121, 115, 116, 101, 109, 46, 111, 117, 116, 46, 112, 114, 105, 110, 116, 108, 110]⟩ _)) ?_
  rintro _ σ2 ⟨rfl, h⟩
  subst σ2
  have h1 : (⟨#[83, 121, 115, 116, 101, 109, 46, 111, 117, 116, 46, 112, 114, 105, 110, 116, 108, 110]⟩ : ByteArray).data.toList = prnL := rfl
  have h2 : (⟨#[83, 121, 115, 116, 101, 109, 46, 111, 117, 116, 46, 112, 114, 105, 110, 116, 108, 110]⟩ : ByteArray).size = 18 := rfl
  rw [h1, h2]
  unfold prnd
  cases h : prnL.isPrefixOf s.data.toList
  · refine hgo_sound 60 ?_
    simp -implicitDefEqProofs (maxSteps := 1000000) only [simpS, ↓condJ_true, ↓condJ_false, ↓reduceIte, Nat.reduceEqDiff, Nat.reduceLT, Nat.reduceLeDiff, reduceCtorEq, Nat.reduceAdd, Nat.reduceSub, noneS, listS, implies_true, forall_const, ne_eq]
    exact fpost_pure (σ0 := σ) (.inr rfl) (by rw [hnx]; exact Nat.le_refl _) hwf (by first | exact Sub.refl σ | exact (((Ext.refl _).new _).sub hwf)) rfl trivial (by repeat' (first | trivial | apply And.intro)) ⟨rfl, rfl⟩
  · have hd := ex_drop s 18
    have hz : (s.extract 18 s.size).size = s.size - 18 := by rw [ByteArray.size_extract]; omega
    rw [if_pos rfl]
    by_cases he : s.extract 18 s.size = ⟨#[]⟩
    · have h3 : s.data.toList.drop 18 = [] := by rw [← hd, he]
      have h4 : decide (s.extract 18 s.size = ⟨#[]⟩) = true := decide_eq_true he
      rw [h3]
      refine hgo_sound 60 ?_
      simp -implicitDefEqProofs (maxSteps := 1000000) only [simpS, ↓condJ_true, ↓condJ_false, ↓reduceIte, Nat.reduceEqDiff, Nat.reduceLT, Nat.reduceLeDiff, reduceCtorEq, Nat.reduceAdd, Nat.reduceSub, noneS, listS, implies_true, forall_const, ne_eq, h4]
      exact fpost_pure (σ0 := σ) (.inr rfl) (by rw [hnx]; exact Nat.le_refl _) hwf (by first | exact Sub.refl σ | exact (((Ext.refl _).new _).sub hwf)) rfl trivial (by repeat' (first | trivial | apply And.intro)) ⟨rfl, rfl⟩
    · have h4 : decide (s.extract 18 s.size = ⟨#[]⟩) = false := decide_eq_false he
      cases hc : s.data.toList.drop 18 with
      | nil =>
        exfalso
        apply he
        apply ByteArray.ext
        apply Array.toList_inj.1
        rw [hd, hc]
      | cons c r =>
        have h5 : (s.extract 18 s.size).data.getD (Int.toNat 0) 0 = c := by
          have := headD_at0 (s.extract 18 s.size)
          rw [hd, hc] at this
          exact this
        have h6 : (0 : Int) < ((s.extract 18 s.size).size : Int) := by
          rw [hz]
          have : (s.data.toList.drop 18).length = r.length + 1 := by rw [hc]; rfl
          rw [List.length_drop, len_list] at this
          omega
        refine hgo_sound 60 ?_
        simp -implicitDefEqProofs (maxSteps := 1000000) only [simpS, ↓condJ_true, ↓condJ_false, ↓reduceIte, Nat.reduceEqDiff, Nat.reduceLT, Nat.reduceLeDiff, reduceCtorEq, Nat.reduceAdd, Nat.reduceSub, noneS, listS, implies_true, forall_const, ne_eq, h4, h5, h6, Int.le_refl]
        refine hx_call (f := .fn 50) rfl (by rw [hP]; exact hcallD_func (linside_calls c _)) ?_
        rintro _ σ2 ⟨rfl, h⟩
        subst σ2
        refine hgo_sound 60 ?_
        simp -implicitDefEqProofs (maxSteps := 1000000) only [simpS, ↓condJ_true, ↓condJ_false, ↓reduceIte, Nat.reduceEqDiff, Nat.reduceLT, Nat.reduceLeDiff, reduceCtorEq, Nat.reduceAdd, Nat.reduceSub, noneS, listS, implies_true, forall_const, ne_eq]
        exact fpost_pure (σ0 := σ) (.inr rfl) (by rw [hnx]; exact Nat.le_refl _) hwf (by first | exact Sub.refl σ | exact (((Ext.refl _).new _).sub hwf)) rfl trivial (by repeat' (first | trivial | apply And.intro)) ⟨rfl, rfl⟩

theorem word_n (s : ByteArray) : runAt insP s 0 = (runTo insP s.data.toList : Int) := runAt_zero insP s

theorem lword_calls (s : ByteArray) (hs : s.size ≤ 1073741824) (σ : St) (hg : GM σ) : HCalls Tryd.prog 51 [.str s] σ (fun d σ' => d = .tuple [.int .i64 (wordK (bsL (s.data.toList.take (runTo insP s.data.toList))) : Nat), .int .i64 (runTo insP s.data.toList : Nat)] ∧ σ' = σ) := by
  refine hcalls_body (fn := Tryd.f51) rfl c51 (by simp [h51]) (by simp [h51, Tryd.f51]) ?_
  intro M hP hr hnt hnx hwf hlt
  simp only [h51, argEnv]
  have hnt' : M.nt = 31 := hnt
  have hle := runTo_le insP s.data.toList
  rw [len_list] at hle
  have h0 : (0 : Int) ≤ (runTo insP s.data.toList : Int) ∧ (runTo insP s.data.toList : Int) ≤ (s.size : Int) := by omega
  refine hgo_sound 60 ?_
  simp -implicitDefEqProofs (maxSteps := 1000000) only [simpS, ↓condJ_true, ↓condJ_false, ↓reduceIte, Nat.reduceEqDiff, Nat.reduceLT, Nat.reduceLeDiff, reduceCtorEq, Nat.reduceAdd, Nat.reduceSub, noneS, listS, implies_true, forall_const, ne_eq]
  refine hx_call (f := .fn 46) rfl (by rw [hP]; exact hcallD_func (run_calls s (by omega) 0 50 insP (fun b σ => linside_calls b σ) _)) ?_
  rintro _ σ2 ⟨rfl, h⟩
  subst σ2
  rw [word_n]
  refine hgo_sound 60 ?_
  simp -implicitDefEqProofs (maxSteps := 1000000) only [simpS, ↓condJ_true, ↓condJ_false, ↓reduceIte, Nat.reduceEqDiff, Nat.reduceLT, Nat.reduceLeDiff, reduceCtorEq, Nat.reduceAdd, Nat.reduceSub, noneS, listS, implies_true, forall_const, ne_eq, h0.1, h0.2, Int.toNat_natCast]
  rw [ex_take]
  have hw : (bsL (s.data.toList.take (runTo insP s.data.toList))).size ≤ 1073741824 := by
    rw [← ex_take, ByteArray.size_extract]; omega
  generalize hW : bsL (s.data.toList.take (runTo insP s.data.toList)) = W at *
  refine hx_call (f := .fn 60) rfl (by rw [hP]; exact hcallD_func (number_calls W (by omega) _ hg.gk)) ?_
  rintro _ σ2 ⟨rfl, h⟩
  subst σ2
  refine hgo_sound 60 ?_
  simp -implicitDefEqProofs (maxSteps := 1000000) only [simpS, ↓condJ_true, ↓condJ_false, ↓reduceIte, Nat.reduceEqDiff, Nat.reduceLT, Nat.reduceLeDiff, reduceCtorEq, Nat.reduceAdd, Nat.reduceSub, noneS, listS, implies_true, forall_const, ne_eq]
  refine hx_call (f := .fn 61) rfl (by rw [hP]; exact hcallD_func (keyword_calls W _ hg.gk)) ?_
  rintro _ σ2 ⟨rfl, h⟩
  subst σ2
  unfold wordK
  cases hk : isKw W
  · refine hgo_sound 60 ?_
    simp -implicitDefEqProofs (maxSteps := 1000000) only [simpS, ↓condJ_true, ↓condJ_false, ↓reduceIte, Nat.reduceEqDiff, Nat.reduceLT, Nat.reduceLeDiff, reduceCtorEq, Nat.reduceAdd, Nat.reduceSub, noneS, listS, implies_true, forall_const, ne_eq]
    refine hx_call (f := .fn 62) rfl (by rw [hP]; exact hcallD_func (word_calls W (by omega) _)) ?_
    rintro _ σ2 ⟨rfl, h⟩
    subst σ2
    cases hwd : isWord W
    · by_cases hn : numE W = 0
      · rw [hn, erD_zero]
        refine hgo_sound 60 ?_
        simp -implicitDefEqProofs (maxSteps := 1000000) only [simpS, ↓condJ_true, ↓condJ_false, ↓reduceIte, Nat.reduceEqDiff, Nat.reduceLT, Nat.reduceLeDiff, reduceCtorEq, Nat.reduceAdd, Nat.reduceSub, noneS, listS, implies_true, forall_const, ne_eq]
        exact fpost_pure (σ0 := σ) (.inr rfl) (by rw [hnx]; exact Nat.le_refl _) hwf (by first | exact Sub.refl σ | exact (((Ext.refl _).new _).sub hwf)) rfl trivial (by repeat' (first | trivial | apply And.intro)) ⟨rfl, rfl⟩
      · rw [erD_pos hn]
        refine hgo_sound 60 ?_
        simp -implicitDefEqProofs (maxSteps := 1000000) only [simpS, ↓condJ_true, ↓condJ_false, ↓reduceIte, Nat.reduceEqDiff, Nat.reduceLT, Nat.reduceLeDiff, reduceCtorEq, Nat.reduceAdd, Nat.reduceSub, noneS, listS, implies_true, forall_const, ne_eq]
        exact fpost_pure (σ0 := σ) (.inr rfl) (by rw [hnx]; exact Nat.le_refl _) hwf (by first | exact Sub.refl σ | exact (((Ext.refl _).new _).sub hwf)) rfl trivial (by repeat' (first | trivial | apply And.intro)) ⟨by simp [tupD, look, hn], rfl⟩
    · refine hgo_sound 60 ?_
      simp -implicitDefEqProofs (maxSteps := 1000000) only [simpS, ↓condJ_true, ↓condJ_false, ↓reduceIte, Nat.reduceEqDiff, Nat.reduceLT, Nat.reduceLeDiff, reduceCtorEq, Nat.reduceAdd, Nat.reduceSub, noneS, listS, implies_true, forall_const, ne_eq]
      exact fpost_pure (σ0 := σ) (.inr rfl) (by rw [hnx]; exact Nat.le_refl _) hwf (by first | exact Sub.refl σ | exact (((Ext.refl _).new _).sub hwf)) rfl trivial (by repeat' (first | trivial | apply And.intro)) ⟨rfl, rfl⟩
  · refine hgo_sound 60 ?_
    simp -implicitDefEqProofs (maxSteps := 1000000) only [simpS, ↓condJ_true, ↓condJ_false, ↓reduceIte, Nat.reduceEqDiff, Nat.reduceLT, Nat.reduceLeDiff, reduceCtorEq, Nat.reduceAdd, Nat.reduceSub, noneS, listS, implies_true, forall_const, ne_eq]
    exact fpost_pure (σ0 := σ) (.inr rfl) (by rw [hnx]; exact Nat.le_refl _) hwf (by first | exact Sub.refl σ | exact (((Ext.refl _).new _).sub hwf)) rfl trivial (by repeat' (first | trivial | apply And.intro)) ⟨rfl, rfl⟩

theorem next_calls (s : ByteArray) (h0 : 0 < s.size) (hs : s.size ≤ 1073741824) (σ : St) (hg : GM σ) : HCalls Tryd.prog 41 [.str s] σ (fun d σ' => d = .tuple [.int .i64 ((lexN s.data.toList).1 : Nat), .int .i64 ((lexN s.data.toList).2 : Nat)] ∧ σ' = σ) := by
  refine hcalls_body (fn := Tryd.f41) rfl c41 (by simp [h41]) (by simp [h41, Tryd.f41]) ?_
  intro M hP hr hnt hnx hwf hlt
  simp only [h41, argEnv]
  have hnt' : M.nt = 38 := hnt
  have hh := headD_at0 s
  have h01 : (0 : Int) < (s.size : Int) := by omega
  have hz : s.data.getD (Int.toNat 0) 0 = s.data.toList.headD 0 := hh
  generalize hc : s.data.toList.headD 0 = c at *
  unfold lexN
  rw [hc]
  refine hgo_sound 60 ?_
  simp -implicitDefEqProofs (maxSteps := 1000000) only [simpS, ↓condJ_true, ↓condJ_false, ↓reduceIte, Nat.reduceEqDiff, Nat.reduceLT, Nat.reduceLeDiff, reduceCtorEq, Nat.reduceAdd, Nat.reduceSub, noneS, listS, implies_true, forall_const, ne_eq, h01, hz, Int.le_refl]
  refine hx_call (f := .fn 45) rfl (by rw [hP]; exact hcallD_func (blank_calls c _)) ?_
  rintro _ σ2 ⟨rfl, h⟩
  subst σ2
  cases hb : isBlk c
  · refine hgo_sound 60 ?_
    simp -implicitDefEqProofs (maxSteps := 1000000) only [simpS, ↓condJ_true, ↓condJ_false, ↓reduceIte, Nat.reduceEqDiff, Nat.reduceLT, Nat.reduceLeDiff, reduceCtorEq, Nat.reduceAdd, Nat.reduceSub, noneS, listS, implies_true, forall_const, ne_eq]
    refine hx_call (f := .fn 47) rfl (by rw [hP]; exact hcallD_func (hasPrefix_calls s ⟨#[47, 47]⟩ _)) ?_
    rintro _ σ2 ⟨rfl, h⟩
    subst σ2
    have e1 : (⟨#[47, 47]⟩ : ByteArray).data.toList = [47, 47] := rfl
    rw [e1]
    cases h1 : ([47, 47] : List UInt8).isPrefixOf s.data.toList
    · refine hgo_sound 60 ?_
      simp -implicitDefEqProofs (maxSteps := 1000000) only [simpS, ↓condJ_true, ↓condJ_false, ↓reduceIte, Nat.reduceEqDiff, Nat.reduceLT, Nat.reduceLeDiff, reduceCtorEq, Nat.reduceAdd, Nat.reduceSub, noneS, listS, implies_true, forall_const, ne_eq]
      refine hx_call (f := .fn 47) rfl (by rw [hP]; exact hcallD_func (hasPrefix_calls s ⟨#[47, 42]⟩ _)) ?_
      rintro _ σ2 ⟨rfl, h⟩
      subst σ2
      have e2 : (⟨#[47, 42]⟩ : ByteArray).data.toList = [47, 42] := rfl
      rw [e2]
      cases h2 : ([47, 42] : List UInt8).isPrefixOf s.data.toList
      · refine hgo_sound 60 ?_
        simp -implicitDefEqProofs (maxSteps := 1000000) only [simpS, ↓condJ_true, ↓condJ_false, ↓reduceIte, Nat.reduceEqDiff, Nat.reduceLT, Nat.reduceLeDiff, reduceCtorEq, Nat.reduceAdd, Nat.reduceSub, noneS, listS, implies_true, forall_const, ne_eq]
        refine hx_call (f := .fn 49) rfl (by rw [hP]; exact hcallD_func (printed_calls s _)) ?_
        rintro _ σ2 ⟨rfl, h⟩
        subst σ2
        cases h3 : prnd s.data.toList
        · refine hgo_sound 60 ?_
          simp -implicitDefEqProofs (maxSteps := 1000000) only [simpS, ↓condJ_true, ↓condJ_false, ↓reduceIte, Nat.reduceEqDiff, Nat.reduceLT, Nat.reduceLeDiff, reduceCtorEq, Nat.reduceAdd, Nat.reduceSub, noneS, listS, implies_true, forall_const, ne_eq]
          refine hx_call (f := .fn 50) rfl (by rw [hP]; exact hcallD_func (linside_calls c _)) ?_
          rintro _ σ2 ⟨rfl, h⟩
          subst σ2
          cases h4 : insP c
          · refine hgo_sound 60 ?_
            simp -implicitDefEqProofs (maxSteps := 1000000) only [simpS, ↓condJ_true, ↓condJ_false, ↓reduceIte, Nat.reduceEqDiff, Nat.reduceLT, Nat.reduceLeDiff, reduceCtorEq, Nat.reduceAdd, Nat.reduceSub, noneS, listS, implies_true, forall_const, ne_eq]
            refine hx_call (f := .fn 47) rfl (by rw [hP]; exact hcallD_func (hasPrefix_calls s ⟨#[38, 38]⟩ _)) ?_
            rintro _ σ2 ⟨rfl, h⟩
            subst σ2
            have e5 : (⟨#[38, 38]⟩ : ByteArray).data.toList = [38, 38] := rfl
            rw [e5]
            cases h5 : ([38, 38] : List UInt8).isPrefixOf s.data.toList
            · refine hgo_sound 60 ?_
              simp -implicitDefEqProofs (maxSteps := 1000000) only [simpS, ↓condJ_true, ↓condJ_false, ↓reduceIte, Nat.reduceEqDiff, Nat.reduceLT, Nat.reduceLeDiff, reduceCtorEq, Nat.reduceAdd, Nat.reduceSub, noneS, listS, implies_true, forall_const, ne_eq]
              refine hx_call (f := .fn 52) rfl (by rw [hP]; exact hcallD_func (indexByte_calls ⟨#[123, 125, 40, 41, 91, 93, 59, 44, 46, 61, 60, 43, 45, 42, 33]⟩ c _)) ?_
              rintro _ σ2 ⟨rfl, h⟩
              subst σ2
              have e6 : (⟨#[123, 125, 40, 41, 91, 93, 59, 44, 46, 61, 60, 43, 45, 42, 33]⟩ : ByteArray).data.toList = sgnL := rfl
              rw [e6]
              cases h6 : sgl c
              · unfold sgl at h6
                refine hgo_sound 60 ?_
                simp -implicitDefEqProofs (maxSteps := 1000000) only [simpS, ↓condJ_true, ↓condJ_false, ↓reduceIte, Nat.reduceEqDiff, Nat.reduceLT, Nat.reduceLeDiff, reduceCtorEq, Nat.reduceAdd, Nat.reduceSub, noneS, listS, implies_true, forall_const, ne_eq, h6]
                exact fpost_pure (σ0 := σ) (.inr rfl) (by rw [hnx]; exact Nat.le_refl _) hwf (by first | exact Sub.refl σ | exact (((Ext.refl _).new _).sub hwf)) rfl trivial (by repeat' (first | trivial | apply And.intro)) ⟨rfl, rfl⟩
              · unfold sgl at h6
                refine hgo_sound 60 ?_
                simp -implicitDefEqProofs (maxSteps := 1000000) only [simpS, ↓condJ_true, ↓condJ_false, ↓reduceIte, Nat.reduceEqDiff, Nat.reduceLT, Nat.reduceLeDiff, reduceCtorEq, Nat.reduceAdd, Nat.reduceSub, noneS, listS, implies_true, forall_const, ne_eq, h6]
                exact fpost_pure (σ0 := σ) (.inr rfl) (by rw [hnx]; exact Nat.le_refl _) hwf (by first | exact Sub.refl σ | exact (((Ext.refl _).new _).sub hwf)) rfl trivial (by repeat' (first | trivial | apply And.intro)) ⟨rfl, rfl⟩
            · refine hgo_sound 60 ?_
              simp -implicitDefEqProofs (maxSteps := 1000000) only [simpS, ↓condJ_true, ↓condJ_false, ↓reduceIte, Nat.reduceEqDiff, Nat.reduceLT, Nat.reduceLeDiff, reduceCtorEq, Nat.reduceAdd, Nat.reduceSub, noneS, listS, implies_true, forall_const, ne_eq]
              exact fpost_pure (σ0 := σ) (.inr rfl) (by rw [hnx]; exact Nat.le_refl _) hwf (by first | exact Sub.refl σ | exact (((Ext.refl _).new _).sub hwf)) rfl trivial (by repeat' (first | trivial | apply And.intro)) ⟨rfl, rfl⟩
          · refine hgo_sound 60 ?_
            simp -implicitDefEqProofs (maxSteps := 1000000) only [simpS, ↓condJ_true, ↓condJ_false, ↓reduceIte, Nat.reduceEqDiff, Nat.reduceLT, Nat.reduceLeDiff, reduceCtorEq, Nat.reduceAdd, Nat.reduceSub, noneS, listS, implies_true, forall_const, ne_eq]
            refine hx_call (f := .fn 51) rfl (by rw [hP]; exact hcallD_func (lword_calls s hs _ hg)) ?_
            rintro _ σ2 ⟨rfl, h⟩
            subst σ2
            refine hgo_sound 60 ?_
            simp -implicitDefEqProofs (maxSteps := 1000000) only [simpS, ↓condJ_true, ↓condJ_false, ↓reduceIte, Nat.reduceEqDiff, Nat.reduceLT, Nat.reduceLeDiff, reduceCtorEq, Nat.reduceAdd, Nat.reduceSub, noneS, listS, implies_true, forall_const, ne_eq]
            exact fpost_pure (σ0 := σ) (.inr rfl) (by rw [hnx]; exact Nat.le_refl _) hwf (by first | exact Sub.refl σ | exact (((Ext.refl _).new _).sub hwf)) rfl trivial (by repeat' (first | trivial | apply And.intro)) ⟨rfl, rfl⟩
        · refine hgo_sound 60 ?_
          simp -implicitDefEqProofs (maxSteps := 1000000) only [simpS, ↓condJ_true, ↓condJ_false, ↓reduceIte, Nat.reduceEqDiff, Nat.reduceLT, Nat.reduceLeDiff, reduceCtorEq, Nat.reduceAdd, Nat.reduceSub, noneS, listS, implies_true, forall_const, ne_eq]
          exact fpost_pure (σ0 := σ) (.inr rfl) (by rw [hnx]; exact Nat.le_refl _) hwf (by first | exact Sub.refl σ | exact (((Ext.refl _).new _).sub hwf)) rfl trivial (by repeat' (first | trivial | apply And.intro)) ⟨rfl, rfl⟩
      · refine hgo_sound 60 ?_
        simp -implicitDefEqProofs (maxSteps := 1000000) only [simpS, ↓condJ_true, ↓condJ_false, ↓reduceIte, Nat.reduceEqDiff, Nat.reduceLT, Nat.reduceLeDiff, reduceCtorEq, Nat.reduceAdd, Nat.reduceSub, noneS, listS, implies_true, forall_const, ne_eq]
        refine hx_call (f := .fn 48) rfl (by rw [hP]; exact hcallD_func (note_calls s hs (by rw [h1, h2]; rfl) _ hg)) ?_
        rintro _ σ2 ⟨rfl, h⟩
        subst σ2
        rw [h1]
        cases hx : ix2 (s.data.toList.drop 2) with
        | none =>
          refine hgo_sound 60 ?_
          simp -implicitDefEqProofs (maxSteps := 1000000) only [simpS, ↓condJ_true, ↓condJ_false, ↓reduceIte, Nat.reduceEqDiff, Nat.reduceLT, Nat.reduceLeDiff, reduceCtorEq, Nat.reduceAdd, Nat.reduceSub, noneS, listS, implies_true, forall_const, ne_eq]
          exact fpost_pure (σ0 := σ) (.inr rfl) (by rw [hnx]; exact Nat.le_refl _) hwf (by first | exact Sub.refl σ | exact (((Ext.refl _).new _).sub hwf)) rfl trivial (by repeat' (first | trivial | apply And.intro)) ⟨by rw [len_list]; rfl, rfl⟩
        | some i =>
          refine hgo_sound 60 ?_
          simp -implicitDefEqProofs (maxSteps := 1000000) only [simpS, ↓condJ_true, ↓condJ_false, ↓reduceIte, Nat.reduceEqDiff, Nat.reduceLT, Nat.reduceLeDiff, reduceCtorEq, Nat.reduceAdd, Nat.reduceSub, noneS, listS, implies_true, forall_const, ne_eq]
          exact fpost_pure (σ0 := σ) (.inr rfl) (by rw [hnx]; exact Nat.le_refl _) hwf (by first | exact Sub.refl σ | exact (((Ext.refl _).new _).sub hwf)) rfl trivial (by repeat' (first | trivial | apply And.intro)) ⟨rfl, rfl⟩
    · refine hgo_sound 60 ?_
      simp -implicitDefEqProofs (maxSteps := 1000000) only [simpS, ↓condJ_true, ↓condJ_false, ↓reduceIte, Nat.reduceEqDiff, Nat.reduceLT, Nat.reduceLeDiff, reduceCtorEq, Nat.reduceAdd, Nat.reduceSub, noneS, listS, implies_true, forall_const, ne_eq]
      refine hx_call (f := .fn 48) rfl (by rw [hP]; exact hcallD_func (note_calls s hs (by rw [h1]; rfl) _ hg)) ?_
      rintro _ σ2 ⟨rfl, h⟩
      subst σ2
      rw [h1]
      refine hgo_sound 60 ?_
      simp -implicitDefEqProofs (maxSteps := 1000000) only [simpS, ↓condJ_true, ↓condJ_false, ↓reduceIte, Nat.reduceEqDiff, Nat.reduceLT, Nat.reduceLeDiff, reduceCtorEq, Nat.reduceAdd, Nat.reduceSub, noneS, listS, implies_true, forall_const, ne_eq]
      exact fpost_pure (σ0 := σ) (.inr rfl) (by rw [hnx]; exact Nat.le_refl _) hwf (by first | exact Sub.refl σ | exact (((Ext.refl _).new _).sub hwf)) rfl trivial (by repeat' (first | trivial | apply And.intro)) ⟨rfl, rfl⟩
  · refine hgo_sound 60 ?_
    simp -implicitDefEqProofs (maxSteps := 1000000) only [simpS, ↓condJ_true, ↓condJ_false, ↓reduceIte, Nat.reduceEqDiff, Nat.reduceLT, Nat.reduceLeDiff, reduceCtorEq, Nat.reduceAdd, Nat.reduceSub, noneS, listS, implies_true, forall_const, ne_eq]
    refine hx_call (f := .fn 46) rfl (by rw [hP]; exact hcallD_func (run_calls s (by omega) 0 45 isBlk (fun b σ => blank_calls b σ) _)) ?_
    rintro _ σ2 ⟨rfl, h⟩
    subst σ2
    rw [runAt_zero]
    refine hgo_sound 60 ?_
    simp -implicitDefEqProofs (maxSteps := 1000000) only [simpS, ↓condJ_true, ↓condJ_false, ↓reduceIte, Nat.reduceEqDiff, Nat.reduceLT, Nat.reduceLeDiff, reduceCtorEq, Nat.reduceAdd, Nat.reduceSub, noneS, listS, implies_true, forall_const, ne_eq]
    exact fpost_pure (σ0 := σ) (.inr rfl) (by rw [hnx]; exact Nat.le_refl _) hwf (by first | exact Sub.refl σ | exact (((Ext.refl _).new _).sub hwf)) rfl trivial (by repeat' (first | trivial | apply And.intro)) ⟨rfl, rfl⟩

end Go.Hl
set_option linter.unusedSectionVars false
set_option linter.unusedVariables false
set_option linter.unusedSimpArgs false
set_option maxRecDepth 100000

namespace Go.Hl
open Go Go.Proofs Go.RowKit

structure Tk3 where
  k : Nat
  f : Nat
  t : Nat

abbrev encK3 (x : Tk3) : List D := [.int .i64 (x.k : Int), .int .i64 (x.f : Int), .int .i64 (x.t : Int)]
def encTk (l : List Tk3) : List (List D) := l.map encK3
theorem encTk_length (l : List Tk3) : (encTk l).length = l.length := by simp [encTk]
theorem encTk_lt (n : Nat) : ∀ l : List Tk3, ltX n (encTk l)
  | [] => trivial
  | s :: l => ⟨⟨trivial, trivial, trivial, trivial⟩, encTk_lt n l⟩
theorem encTk_snoc (l : List Tk3) (x : Tk3) : encTk l ++ [encK3 x] = encTk (l ++ [x]) := by simp [encTk]
theorem encTk_get (l : List Tk3) (j : Nat) (h : j < l.length) : (encTk l).getD j [] = encK3 l[j] := by simp [encTk, List.getD, h]

def toksF : Nat → List UInt8 → Nat → List Tk3
  | 0, _, _ => []
  | n + 1, l, a => if l = [] then [] else ⟨(lexN l).1, a, a + (lexN l).2⟩ :: toksF n (l.drop (lexN l).2) (a + (lexN l).2)
def toks (l : List UInt8) (a : Nat) : List Tk3 := toksF l.length l a

theorem toksF_eq : ∀ (n m : Nat) (l : List UInt8) (a : Nat), l.length ≤ n → l.length ≤ m → toksF n l a = toksF m l a
  | 0, m, l, a, h, _ => by
    have : l = [] := List.length_eq_zero_iff.1 (by omega)
    subst this
    cases m <;> simp [toksF]
  | n + 1, 0, l, a, _, h => by
    have : l = [] := List.length_eq_zero_iff.1 (by omega)
    subst this
    simp [toksF]
  | n + 1, m + 1, l, a, h1, h2 => by
    simp only [toksF]
    by_cases hl : l = []
    · simp [hl]
    · rw [if_neg hl, if_neg hl]
      have := lexN_len l hl
      rw [toksF_eq n m _ _ (by rw [List.length_drop]; omega) (by rw [List.length_drop]; omega)]
theorem toks_nil (a : Nat) : toks [] a = [] := rfl
theorem toks_cons (l : List UInt8) (a : Nat) (h : l ≠ []) : toks l a = ⟨(lexN l).1, a, a + (lexN l).2⟩ :: toks (l.drop (lexN l).2) (a + (lexN l).2) := by
  have h1 := lexN_len l h
  unfold toks
  obtain ⟨n, hn⟩ : ∃ n, l.length = n + 1 := ⟨l.length - 1, by omega⟩
  rw [hn]
  simp only [toksF]
  rw [if_neg h, toksF_eq n _ _ _ (by rw [List.length_drop]; omega) (Nat.le_refl _)]
theorem toks_length : ∀ (n : Nat) (l : List UInt8) (a : Nat), l.length ≤ n → (toks l a).length ≤ l.length
  | 0, l, a, h => by
    have : l = [] := List.length_eq_zero_iff.1 (by omega)
    subst this
    simp [toks_nil]
  | n + 1, l, a, h => by
    by_cases hl : l = []
    · subst hl; simp [toks_nil]
    · have h1 := lexN_len l hl
      have := toks_length n (l.drop (lexN l).2) (a + (lexN l).2) (by rw [List.length_drop]; omega)
      rw [toks_cons l a hl, List.length_cons]
      rw [List.length_drop] at this
      omega

theorem all_calls (s : ByteArray) (σ : St) : HCalls Tryd.prog 32 [.str s] σ (fun d σ' => d = .func 40 [.eptr [.str s] 0] ∧ σ' = σ) := by
  refine hcalls_body (fn := Tryd.f32) rfl c32 (by simp [h32]) (by simp [h32, Tryd.f32]) ?_
  intro M hP hr hnt hnx hwf hlt
  simp only [h32, argEnv]
  have hnt' : M.nt = 4 := hnt
  refine hgo_sound 60 ?_
  simp -implicitDefEqProofs (maxSteps := 1000000) only [simpS, ↓condJ_true, ↓condJ_false, ↓reduceIte, Nat.reduceEqDiff, Nat.reduceLT, Nat.reduceLeDiff, reduceCtorEq, Nat.reduceAdd, Nat.reduceSub, noneS, listS, implies_true, forall_const, ne_eq]
  refine fpost_frz [(σ.next, [.str s])] false (.inr rfl) (by omega) hwf ((Ext.refl σ).new _ |>.sub hwf) rfl trivial (by simp [St.obj_new]) (by simp [tupD, frzD, frzL, lookF, look]) ?_ ⟨rfl, rfl⟩
  simp [D.lt, ltL]

structure AlS (C : Type) where
  a : Nat
  c : C

theorem drop_size (s : ByteArray) (a : Nat) : (s.extract a s.size).size = s.size - a := by rw [ByteArray.size_extract]; omega
theorem drop_ne (s : ByteArray) (a : Nat) (h : a < s.size) : s.data.toList.drop a ≠ [] := by
  intro e
  have := List.drop_eq_nil_iff.1 e
  rw [len_list] at this
  omega

theorem all_iter (s : ByteArray) (hs : s.size ≤ 1073741824) (gl : Nat → Option (List D)) (hg : ∀ σ : St, σ.glob = gl → GM σ) :
    IterAt Tryd.prog 40 (fun y => [y, .eptr [.str s] 0]) (fun x => [D.agg (encK3 x)]) (toks s.data.toList 0) gl := by
  intro tk c y hgl hok hy
  refine hcalls_body (fn := Tryd.f40) rfl c40 (by simp [h40]) (by simp [h40, Tryd.f40]) ?_
  intro M hP hr hnt hnx hwf hlt
  simp only [h40, argEnv]
  refine hgo_sound 60 ?_
  simp -implicitDefEqProofs (maxSteps := 1000000) only [simpS, ↓condJ_true, ↓condJ_false, ↓reduceIte, Nat.reduceEqDiff, Nat.reduceLT, Nat.reduceLeDiff, reduceCtorEq, Nat.reduceAdd, Nat.reduceSub, noneS, listS, implies_true, forall_const, ne_eq]
  refine hx_know_code fun hw hl hn => ?_
  refine hx_loop (S := AlS tk.C) (fun t => [(0, y), (1, .eptr [.str s] 0), (3, .int .i64 t.a)]) (fun t => tk.T t.c)
    (fun t => t.a ≤ s.size ∧ tk.oks t.c (toks (s.data.toList.drop t.a) t.a) ∧ tk.run c (toks s.data.toList 0) = tk.run t.c (toks (s.data.toList.drop t.a) t.a))
    (fun t => s.size - t.a) ⟨0, c⟩ ⟨Nat.zero_le _, hok, rfl⟩ (fun _ _ h => by rw [hr] at h; cases h) ?_ ?_
  · exact Drop.all hw hn ⟨⟨rfl, hl 0⟩, ⟨rfl, hl 1⟩, ⟨rfl, trivial⟩, trivial⟩
  rintro ⟨a, c1⟩ ⟨h1, h6, h7⟩
  simp only at h1 h6 h7 ⊢
  refine hx_know_code fun hw1 hl1 hn1 => ?_
  by_cases ha : a < s.size
  · have hd : decide ((a : Int) < (s.size : Int)) = true := decide_eq_true (by omega)
    have ha2 : (0 : Int) ≤ (a : Int) ∧ (a : Int) ≤ (s.size : Int) := by omega
    have hne := drop_ne s a ha
    have hln := lexN_len _ hne
    rw [List.length_drop, len_list] at hln
    rw [toks_cons _ _ hne] at h6 h7
    have hz := drop_size s a
    have hc := next_calls (s.extract a s.size) (by omega) (by omega) (tk.T c1) (hg _ ((tk.glob c1 c).trans hgl))
    rw [ex_drop] at hc
    rw [List.drop_drop] at h6 h7
    generalize hk : lexN (s.data.toList.drop a) = kn at *
    obtain ⟨k, n⟩ := kn
    simp only at hc h6 h7 hln
    have hw3 : IntKind.i64.wrap ((a : Int) + (n : Int)) = ((a + n : Nat) : Int) := by rw [IntWalk.i64_in _ (by omega)]; rfl
    refine hgo_sound 60 ?_
    simp -implicitDefEqProofs (maxSteps := 1000000) only [simpS, ↓condJ_true, ↓condJ_false, ↓reduceIte, Nat.reduceEqDiff, Nat.reduceLT, Nat.reduceLeDiff, reduceCtorEq, Nat.reduceAdd, Nat.reduceSub, noneS, listS, implies_true, forall_const, ne_eq, hd, ha2.1, ha2.2, Int.toNat_natCast]
    refine hx_call (f := .fn 41) rfl (by rw [hP]; exact hcallD_func (hc)) ?_
    rintro _ σ2 ⟨rfl, h⟩
    subst σ2
    refine hgo_sound 60 ?_
    simp -implicitDefEqProofs (maxSteps := 1000000) only [simpS, ↓condJ_true, ↓condJ_false, ↓reduceIte, Nat.reduceEqDiff, Nat.reduceLT, Nat.reduceLeDiff, reduceCtorEq, Nat.reduceAdd, Nat.reduceSub, noneS, listS, implies_true, forall_const, ne_eq, hw3]
    refine hx_call rfl (by rw [hP]; exact hy.call c1 ⟨k, a, a + n⟩ (tk.T c1) (tk.low c1) h6.1) ?_
    rintro d σ2 ⟨rfl, rfl⟩
    rw [tk.mixT]
    refine hx_know_ops fun hw2 hl2 hn2 => ?_
    cases hb : (tk.step c1 ⟨k, a, a + n⟩).2
    · refine hgo_sound 60 ?_
      simp -implicitDefEqProofs (maxSteps := 1000000) only [simpS, ↓condJ_true, ↓condJ_false, ↓reduceIte, Nat.reduceEqDiff, Nat.reduceLT, Nat.reduceLeDiff, reduceCtorEq, Nat.reduceAdd, Nat.reduceSub, noneS, listS, implies_true, forall_const, ne_eq]
      rw [h7, Tk.run_false hb]
      exact fpost_pure (.inr rfl) hn2 hw2 (Sub.refl _) rfl trivial trivial rfl
    · refine hgo_sound 60 ?_
      simp -implicitDefEqProofs (maxSteps := 1000000) only [simpS, ↓condJ_true, ↓condJ_false, ↓reduceIte, Nat.reduceEqDiff, Nat.reduceLT, Nat.reduceLeDiff, reduceCtorEq, Nat.reduceAdd, Nat.reduceSub, noneS, listS, implies_true, forall_const, ne_eq, hw3]
      intro _ _ _
      refine ⟨⟨a + n, _⟩, ⟨by simp only; omega, h6.2 hb, by rw [h7, Tk.run_true hb]⟩, by simp only; omega, ?_⟩
      exact Drop.all hw2 hn2 ⟨⟨rfl, hl2 0⟩, ⟨rfl, hl2 1⟩, ⟨rfl, trivial⟩, trivial⟩
  · have hd : decide ((a : Int) < (s.size : Int)) = false := decide_eq_false (by omega)
    have haa : s.data.toList.drop a = [] := List.drop_eq_nil_of_le (by rw [len_list]; omega)
    rw [haa, toks_nil] at h7
    refine hgo_sound 60 ?_
    simp -implicitDefEqProofs (maxSteps := 1000000) only [simpS, ↓condJ_true, ↓condJ_false, ↓reduceIte, Nat.reduceEqDiff, Nat.reduceLT, Nat.reduceLeDiff, reduceCtorEq, Nat.reduceAdd, Nat.reduceSub, noneS, listS, implies_true, forall_const, ne_eq, hd]
    rw [h7]
    exact fpost_pure (.inl rfl) hn1 hw1 (Sub.refl _) rfl trivial trivial rfl

end Go.Hl
set_option linter.unusedSectionVars false
set_option linter.unusedVariables false
set_option linter.unusedSimpArgs false
set_option maxRecDepth 100000

namespace Go.Hl
open Go Go.Proofs Go.RowKit

end Go.Hl
set_option linter.unusedSectionVars false
set_option linter.unusedVariables false
set_option linter.unusedSimpArgs false
set_option maxRecDepth 100000

namespace Go.Hl
open Go Go.Proofs Go.RowKit

end Go.Hl
set_option linter.unusedSectionVars false
set_option linter.unusedVariables false
set_option linter.unusedSimpArgs false
set_option maxRecDepth 100000
namespace Go.Hl
open Go Go.Proofs Go.RowKit

theorem toks_le (s : ByteArray) : (toks s.data.toList 0).length ≤ s.size := by
  have hl := toks_length s.size s.data.toList 0 (by rw [len_list]; exact Nat.le_refl _)
  rwa [len_list] at hl

end Go.Hl
set_option linter.unusedSectionVars false
set_option linter.unusedVariables false
set_option linter.unusedSimpArgs false
set_option maxRecDepth 100000

namespace Go.Hl
open Go Go.Proofs Go.RowKit

def badAt : List Tk3 → Option Nat
  | [] => none
  | x :: r => if x.k = 7 then some x.f else badAt r
def isReal (x : Tk3) : Bool := decide (2 < x.k)
def realsL (l : List Tk3) : List Tk3 := l.filter isReal

theorem wordK_pos (s : ByteArray) : 1 ≤ wordK s ∧ wordK s ≤ 7 := by
  unfold wordK
  split
  · simp
  split
  · simp
  split <;> simp
theorem lexN_kind (l : List UInt8) : 1 ≤ (lexN l).1 ∧ (lexN l).1 ≤ 7 := by
  unfold lexN
  split
  · simp
  split
  · simp
  split
  · split <;> simp
  split
  · simp
  split
  · exact wordK_pos _
  split
  · simp
  split <;> simp
theorem toks_kind : ∀ (n : Nat) (l : List UInt8) (a : Nat), l.length ≤ n → ∀ x ∈ toks l a, 1 ≤ x.k ∧ x.k ≤ 7 ∧ a ≤ x.f ∧ x.f < x.t ∧ x.t ≤ a + l.length
  | 0, l, a, h, x, hx => by
    have : l = [] := List.length_eq_zero_iff.1 (by omega)
    subst this
    simp [toks_nil] at hx
  | n + 1, l, a, h, x, hx => by
    by_cases hl : l = []
    · subst hl; simp [toks_nil] at hx
    · have h1 := lexN_len l hl
      have h2 := lexN_kind l
      rw [toks_cons l a hl] at hx
      rcases List.mem_cons.1 hx with rfl | hx
      · simp only; omega
      · have := toks_kind n (l.drop (lexN l).2) (a + (lexN l).2) (by rw [List.length_drop]; omega) x hx
        rw [List.length_drop] at this
        omega
theorem toksS (s : ByteArray) : ∀ x ∈ toks s.data.toList 0, 1 ≤ x.k ∧ x.k ≤ 7 ∧ x.f < x.t ∧ x.t ≤ s.size := fun x hx => by
  have := toks_kind s.size s.data.toList 0 (by rw [len_list]; exact Nat.le_refl _) x hx
  rw [len_list] at this
  omega

theorem realsL_le (l : List Tk3) : (realsL l).length ≤ l.length := List.length_filter_le _ _

def realR (l : List Tk3) : List Tk3 := match badAt l with | some _ => [] | none => realsL l
def realA (l : List Tk3) : Nat := match badAt l with | some f => f | none => 0
def realE (l : List Tk3) : Int := match badAt l with | some f => 2 | none => 0

structure RqS where
  c : List Tk3
  b : Option Nat

def rqStep (t : RqS) (x : Tk3) : RqS × Option HC :=
  if x.k = 7 then (⟨t.c, some x.f⟩, some .ret) else if x.k = 1 ∨ x.k = 2 then (t, none) else (⟨t.c ++ [x], t.b⟩, none)
theorem rqStep_run : ∀ (l : List Tk3) (c : List Tk3), (∀ x ∈ l, 1 ≤ x.k) →
    ∃ c', rngRun rqStep ⟨c, none⟩ l = match badAt l with | some f => (⟨c', some f⟩, some .ret) | none => (⟨c ++ realsL l, none⟩, none)
  | [], c, _ => ⟨c, by simp [rngRun, badAt, realsL]⟩
  | x :: l, c, h => by
    have hx := h x (List.mem_cons_self ..)
    have hl : ∀ y ∈ l, 1 ≤ y.k := fun y hy => h y (List.mem_cons_of_mem _ hy)
    simp only [rngRun, rqStep, badAt]
    by_cases h7 : x.k = 7
    · rw [if_pos h7, if_pos h7]
      exact ⟨c, rfl⟩
    · rw [if_neg h7, if_neg h7]
      by_cases h12 : x.k = 1 ∨ x.k = 2
      · rw [if_pos h12]
        simp only
        obtain ⟨c', hc⟩ := rqStep_run l c hl
        have hf : isReal x = false := by unfold isReal; exact decide_eq_false (by omega)
        refine ⟨c', ?_⟩
        rw [hc]
        simp only [realsL, List.filter_cons, hf, Bool.false_eq_true, if_false]
      · rw [if_neg h12]
        simp only
        obtain ⟨c', hc⟩ := rqStep_run l (c ++ [x]) hl
        have hf : isReal x = true := by unfold isReal; exact decide_eq_true (by omega)
        refine ⟨c', ?_⟩
        rw [hc]
        simp only [realsL, List.filter_cons, hf, if_true, List.append_assoc, List.cons_append, List.nil_append]
theorem rqStep_oks : ∀ (l : List Tk3) (t : RqS), t.b = none → t.c.length + l.length ≤ 1073741824 → rngOks (fun (t : RqS) (x : Tk3) => t.c.length + 1 ≤ 1073741824 ∧ t.b = none) rqStep t l
  | [], t, _, _ => trivial
  | x :: xs, t, hb, h => by
    simp only [List.length_cons] at h
    refine ⟨⟨by omega, hb⟩, fun hn => ?_⟩
    unfold rqStep at hn ⊢
    split
    · rename_i h7
      rw [if_pos h7] at hn
      cases hn
    · split
      · exact rqStep_oks xs t hb (by omega)
      · exact rqStep_oks xs _ hb (by simp only [List.length_append, List.length_cons, List.length_nil]; omega)

def rqErr : Option Nat → D
  | some _ => .iface 32 (.int .i64 2)
  | none => .nili
def rqAt : Option Nat → Int
  | some f => f
  | none => 0
def rqS (σ : St) (t : RqS) : St :=
  ((((σ.new (.bx none [.slice .nil 0 []])).new (.bx none [.int .i64 (rqAt t.b)])).new (.bx none [rqErr t.b])).new (.bx none [.slice (.tok (σ.next + 4)) 3 (encTk t.c)])).new (.tok 58 t.c.length)
theorem rqS_next (σ : St) (t : RqS) : (rqS σ t).next = σ.next + 5 := rfl
theorem rqS_wf {σ : St} (hw : σ.wf) (t : RqS) : (rqS σ t).wf := by
  refine St.wf.new2 (((hw.box (cs := [.slice .nil 0 []]) ⟨⟨trivial, trivial⟩, trivial⟩).box (cs := [.int .i64 (rqAt t.b)]) ⟨trivial, trivial⟩).box (cs := [rqErr t.b]) ⟨by cases t.b <;> trivial, trivial⟩) ?_ trivial
  refine ⟨⟨?_, encTk_lt _ _⟩, trivial⟩
  show σ.next + 4 < σ.next + 3 + 2
  omega
theorem rqS_ext (σ : St) (t : RqS) : Ext σ (rqS σ t) := (((((Ext.refl σ).new _).new _).new _).new _).new _
theorem rqS_0 (σ : St) (t : RqS) : (rqS σ t).obj σ.next = some (.bx none [.slice .nil 0 []]) := by simp only [rqS, simpS, ↓condJ_true, ↓condJ_false, ↓reduceIte, Nat.reduceEqDiff, Nat.reduceLT, Nat.reduceLeDiff, reduceCtorEq, Nat.reduceAdd, Nat.reduceSub, noneS, listS, implies_true, forall_const, ne_eq]
theorem rqS_1 (σ : St) (t : RqS) : (rqS σ t).obj (σ.next + 1) = some (.bx none [.int .i64 (rqAt t.b)]) := by simp only [rqS, simpS, ↓condJ_true, ↓condJ_false, ↓reduceIte, Nat.reduceEqDiff, Nat.reduceLT, Nat.reduceLeDiff, reduceCtorEq, Nat.reduceAdd, Nat.reduceSub, noneS, listS, implies_true, forall_const, ne_eq]
theorem rqS_2 (σ : St) (t : RqS) : (rqS σ t).obj (σ.next + 2) = some (.bx none [rqErr t.b]) := by simp only [rqS, simpS, ↓condJ_true, ↓condJ_false, ↓reduceIte, Nat.reduceEqDiff, Nat.reduceLT, Nat.reduceLeDiff, reduceCtorEq, Nat.reduceAdd, Nat.reduceSub, noneS, listS, implies_true, forall_const, ne_eq]
theorem rqS_3 (σ : St) (t : RqS) : (rqS σ t).obj (σ.next + 3) = some (.bx none [.slice (.tok (σ.next + 4)) 3 (encTk t.c)]) := by simp only [rqS, simpS, ↓condJ_true, ↓condJ_false, ↓reduceIte, Nat.reduceEqDiff, Nat.reduceLT, Nat.reduceLeDiff, reduceCtorEq, Nat.reduceAdd, Nat.reduceSub, noneS, listS, implies_true, forall_const, ne_eq]
theorem rqS_4 (σ : St) (t : RqS) : (rqS σ t).obj (σ.next + 4) = some (.tok 58 t.c.length) := by simp only [rqS, simpS, ↓condJ_true, ↓condJ_false, ↓reduceIte, Nat.reduceEqDiff, Nat.reduceLT, Nat.reduceLeDiff, reduceCtorEq, Nat.reduceAdd, Nat.reduceSub, noneS, listS, implies_true, forall_const, ne_eq]

set_option maxHeartbeats 4000000 in
theorem real_calls (s : ByteArray) (hs : s.size ≤ 1073741824) (σ : St) (hg : GM σ) : HCalls Tryd.prog 23 [.str s] σ (fun d σ' => d = .tuple [.slice .no 3 (encTk (realR (toks s.data.toList 0))), .int .i64 (realA (toks s.data.toList 0) : Nat), erD (realE (toks s.data.toList 0))] ∧ σ' = σ) := by
  refine hcalls_body (fn := Tryd.f23) rfl c23 (by simp [h23]) (by simp [h23, Tryd.f23]) ?_
  intro M hP hr hnt hnx hwf hlt
  simp only [h23, argEnv]
  have hit := all_iter s hs σ.glob (fun _ h => hg.to h)
  have hkd : ∀ x ∈ toks s.data.toList 0, 1 ≤ x.k := fun x hx => (toksS s x hx).1
  have hle := toks_le s
  obtain ⟨c', hrun⟩ := rqStep_run (toks s.data.toList 0) [] hkd
  unfold realR realA realE
  generalize toks s.data.toList 0 = W at *
  refine hgo_sound 10 ?_
  simp -implicitDefEqProofs (maxSteps := 1000000) only [simpS, ↓condJ_true, ↓condJ_false, ↓reduceIte, Nat.reduceEqDiff, Nat.reduceLT, Nat.reduceLeDiff, reduceCtorEq, Nat.reduceAdd, Nat.reduceSub, noneS, listS, implies_true, forall_const, ne_eq]
  refine hx_full_box (id := σ.next + 3) (j := 0) (cs := [.slice .nil 0 []]) (ot := none) 58 3 (by simp -implicitDefEqProofs (maxSteps := 1000000) only [simpS, ↓condJ_true, ↓condJ_false, ↓reduceIte, Nat.reduceEqDiff, Nat.reduceLT, Nat.reduceLeDiff, reduceCtorEq, Nat.reduceAdd, Nat.reduceSub, noneS, listS, implies_true, forall_const, ne_eq]) rfl ?_ (fun _ e => by cases e) (fun _ e => by cases e)
  refine hgo_sound 8 ?_
  simp -implicitDefEqProofs (maxSteps := 1000000) only [simpS, ↓condJ_true, ↓condJ_false, ↓reduceIte, Nat.reduceEqDiff, Nat.reduceLT, Nat.reduceLeDiff, reduceCtorEq, Nat.reduceAdd, Nat.reduceSub, noneS, listS, implies_true, forall_const, ne_eq]
  refine hx_call (f := .fn 32) rfl (by rw [hP]; exact hcallD_func (all_calls s _)) ?_
  rintro _ σ2 ⟨rfl, h⟩
  subst σ2
  refine hgo_sound 6 ?_
  simp -implicitDefEqProofs (maxSteps := 1000000) only [simpS, ↓condJ_true, ↓condJ_false, ↓reduceIte, Nat.reduceEqDiff, Nat.reduceLT, Nat.reduceLeDiff, reduceCtorEq, Nat.reduceAdd, Nat.reduceSub, noneS, listS, implies_true, forall_const, ne_eq]
  refine hx_know_code fun hw hl hn => ?_
  refine hx_range_foldA (fn := 40) (caps := [.eptr [.str s] 0]) (xs := W) (enc := fun x => [D.agg (encK3 x)]) (fun t : RqS => rqS σ t)
    (fun (t : RqS) (x : Tk3) => t.c.length + 1 ≤ 1073741824 ∧ t.b = none) rqStep ⟨[], none⟩ rfl (by rw [hP]; rfl) (fun _ _ h => by rw [hr] at h; cases h) (by rw [hP]; exact hit) ?_
    (fun c => rfl) (fun c c' => rfl) (fun t => rqS_wf hwf t) hl (rqStep_oks _ _ rfl (by simp only [List.length_nil]; omega)) (fun _ => rfl) (by rw [hnt]; decide) ?_ ?_
  · refine St.ext' (fun q => ?_) rfl rfl
    simp only [rqS, St.obj_new, St.obj_put, St.next_new, Nat.add_assoc, Nat.reduceAdd, rqAt, rqErr]
    by_cases q1 : q = σ.next + 3
    · simp [q1, encTk]
    · by_cases q2 : q = σ.next + 4 <;> simp [q1, q2]
  · rintro ⟨c, bo⟩ x ρ ⟨hk, rfl⟩ hle2 hτ hgl2 M' hP' hnt2 hr' hnx' hwf' hlt'
    simp only at hk
    simp only [St.next_new, St.next_put, Nat.add_assoc, Nat.reduceAdd, rqS_next] at hle2 hl ⊢
    simp only [putsE]
    have hnt3 : M'.nt = 25 := by rw [hnt2]; exact hnt
    have n1 : ¬ ρ.next < σ.next + 6 := by omega
    have n2 : ¬ ρ.next + 1 < σ.next + 6 := by omega
    have hsz : (c.length + 1) * 24 ≤ 140737488355328 := by omega
    have hsz2 : c.length + 1 ≤ 9223372036854775807 := by omega
    unfold rqStep
    by_cases h7 : x.k = 7
    · have hb7 : ((x.k : Int) == 7) = true := by rw [h7]; rfl
      rw [if_pos h7]
      refine hgo_sound 60 ?_
      simp -implicitDefEqProofs (maxSteps := 1000000) only [simpS, ↓condJ_true, ↓condJ_false, ↓reduceIte, Nat.reduceEqDiff, Nat.reduceLT, Nat.reduceLeDiff, reduceCtorEq, Nat.reduceAdd, Nat.reduceSub, noneS, listS, implies_true, forall_const, ne_eq, hle2, n1, rqS_next]
      refine hgo_sound 60 ?_
      simp -implicitDefEqProofs (maxSteps := 1000000) only [simpS, ↓condJ_true, ↓condJ_false, ↓reduceIte, Nat.reduceEqDiff, Nat.reduceLT, Nat.reduceLeDiff, reduceCtorEq, Nat.reduceAdd, Nat.reduceSub, noneS, listS, implies_true, forall_const, ne_eq, hle2, n1, n2, rqS_next, hb7]
      refine hx_drawgo 4 ?_
      simp -implicitDefEqProofs (maxSteps := 3000000) only [drawS, listS, List.getElem?_cons_zero, List.getElem?_cons_succ, List.getElem?_nil, simpS, ↓condJ_true, ↓condJ_false, ↓reduceIte, Nat.reduceEqDiff, Nat.reduceLT, Nat.reduceLeDiff, reduceCtorEq, Nat.reduceAdd, Nat.reduceSub, noneS, listS, implies_true, forall_const, ne_eq, hnt3, hle2, n1, n2, rqS_next, rqS_0, rqS_1, rqS_2, rqS_3, rqS_4]
      refine hx_ret (round_ret (n := σ.next + 5) ?_ rfl (rqS_wf hwf ⟨c, some x.f⟩) hl hτ hle2 ((Ext.refl ρ).new _))
      refine St.ext' (fun q => ?_) rfl rfl
      simp only [rqS, St.obj_new, St.obj_put, St.next_new, St.next_put, Nat.add_assoc, Nat.reduceAdd, rqAt, rqErr]
      by_cases q1 : q = σ.next
      · simp [q1]
      · by_cases q2 : q = σ.next + 1
        · simp [q2]
        · by_cases q3 : q = σ.next + 2 <;> simp [q1, q2, q3]
    · have hb7 : ((x.k : Int) == 7) = false := by simp only [beq_eq_false_iff_ne, ne_eq]; omega
      rw [if_neg h7]
      by_cases h1 : x.k = 1
      · have hb1 : ((x.k : Int) == 1) = true := by rw [h1]; rfl
        rw [if_pos (.inl h1)]
        refine hgo_sound 60 ?_
        simp -implicitDefEqProofs (maxSteps := 1000000) only [simpS, ↓condJ_true, ↓condJ_false, ↓reduceIte, Nat.reduceEqDiff, Nat.reduceLT, Nat.reduceLeDiff, reduceCtorEq, Nat.reduceAdd, Nat.reduceSub, noneS, listS, implies_true, forall_const, ne_eq, hle2, n1, rqS_next]
        refine hgo_sound 60 ?_
        simp -implicitDefEqProofs (maxSteps := 1000000) only [simpS, ↓condJ_true, ↓condJ_false, ↓reduceIte, Nat.reduceEqDiff, Nat.reduceLT, Nat.reduceLeDiff, reduceCtorEq, Nat.reduceAdd, Nat.reduceSub, noneS, listS, implies_true, forall_const, ne_eq, hle2, n1, n2, rqS_next, rqS_0, rqS_1, rqS_2, rqS_3, rqS_4, hb7, hb1]
        exact round_next rfl rfl (rqS_wf hwf ⟨c, none⟩) hl hτ hle2 ((Ext.refl ρ).new _)
      · have hb1 : ((x.k : Int) == 1) = false := by simp only [beq_eq_false_iff_ne, ne_eq]; omega
        by_cases h2 : x.k = 2
        · have hb2 : ((x.k : Int) == 2) = true := by rw [h2]; rfl
          rw [if_pos (.inr h2)]
          refine hgo_sound 60 ?_
          simp -implicitDefEqProofs (maxSteps := 1000000) only [simpS, ↓condJ_true, ↓condJ_false, ↓reduceIte, Nat.reduceEqDiff, Nat.reduceLT, Nat.reduceLeDiff, reduceCtorEq, Nat.reduceAdd, Nat.reduceSub, noneS, listS, implies_true, forall_const, ne_eq, hle2, n1, rqS_next]
          refine hgo_sound 60 ?_
          simp -implicitDefEqProofs (maxSteps := 1000000) only [simpS, ↓condJ_true, ↓condJ_false, ↓reduceIte, Nat.reduceEqDiff, Nat.reduceLT, Nat.reduceLeDiff, reduceCtorEq, Nat.reduceAdd, Nat.reduceSub, noneS, listS, implies_true, forall_const, ne_eq, hle2, n1, n2, rqS_next, rqS_0, rqS_1, rqS_2, rqS_3, rqS_4, hb7, hb1, hb2]
          exact round_next rfl rfl (rqS_wf hwf ⟨c, none⟩) hl hτ hle2 ((Ext.refl ρ).new _)
        · have hb2 : ((x.k : Int) == 2) = false := by simp only [beq_eq_false_iff_ne, ne_eq]; omega
          rw [if_neg (by omega)]
          refine hgo_sound 60 ?_
          simp -implicitDefEqProofs (maxSteps := 1000000) only [simpS, ↓condJ_true, ↓condJ_false, ↓reduceIte, Nat.reduceEqDiff, Nat.reduceLT, Nat.reduceLeDiff, reduceCtorEq, Nat.reduceAdd, Nat.reduceSub, noneS, listS, implies_true, forall_const, ne_eq, hle2, n1, rqS_next]
          refine hgo_sound 60 ?_
          simp -implicitDefEqProofs (maxSteps := 1000000) only [simpS, ↓condJ_true, ↓condJ_false, ↓reduceIte, Nat.reduceEqDiff, Nat.reduceLT, Nat.reduceLeDiff, reduceCtorEq, Nat.reduceAdd, Nat.reduceSub, noneS, listS, implies_true, forall_const, ne_eq, hle2, n1, n2, rqS_next, rqS_0, rqS_1, rqS_2, rqS_3, rqS_4, hb7, hb1, hb2, encTk_length, hsz, hsz2]
          refine round_next ?_ rfl (rqS_wf hwf ⟨c ++ [x], none⟩) hl hτ hle2 ((Ext.refl ρ).new _)
          refine St.ext' (fun q => ?_) rfl rfl
          simp only [rqS, St.obj_new, St.obj_put, St.next_new, St.next_put, Nat.add_assoc, Nat.reduceAdd, rqAt, rqErr, ← encTk_snoc, List.length_append, List.length_cons, List.length_nil]
          by_cases q1 : q = σ.next + 3
          · simp [q1]
          · by_cases q2 : q = σ.next + 4 <;> simp [q1, q2]
  · rw [hrun]
    cases hb : badAt W with
    | some f =>
      refine hx_ret ?_
      exact fpost_wk (σ0 := σ) (ds := [.slice .nil 0 [], .int .i64 (f : Int), .iface 32 (.int .i64 2)]) (Wk.tuple (WkL.cons Wk.nil (WkL.refl _))) (.inr rfl) (by rw [hnx]; exact Nat.le_refl _) hwf ((rqS_ext σ _).bump.sub hwf)
        (resD_cell rfl (rqS_0 ..) (resD_cell rfl (rqS_1 ..) (resD_cell rfl (rqS_2 ..) resD_nil))) ⟨by decide, by decide, by decide, trivial⟩ ⟨⟨trivial, trivial⟩, trivial, trivial, trivial⟩ ⟨rfl, rfl⟩
    | none =>
      refine hx_inBlock ?_
      refine hgo_sound 60 ?_
      simp -implicitDefEqProofs (maxSteps := 1000000) only [simpS, ↓condJ_true, ↓condJ_false, ↓reduceIte, Nat.reduceEqDiff, Nat.reduceLT, Nat.reduceLeDiff, reduceCtorEq, Nat.reduceAdd, Nat.reduceSub, noneS, listS, implies_true, forall_const, ne_eq, rqS_next, rqS_0, rqS_1, rqS_2, rqS_3, rqS_4]
      exact fpost_strip (σ0 := σ) (ds := [.slice (.tok (σ.next + 4)) 3 (encTk (realsL W)), .int .i64 0, .nili]) (Wk.refl _) (.inr rfl) (by rw [hnx]; exact Nat.le_refl _) hwf ((((rqS_ext σ _).put (Nat.le_refl _) _).put (Nat.le_succ _) _).put (by omega) _ |>.bump.sub hwf)
        (resD_cell rfl (by simp [St.obj_bump, St.obj_put]) (resD_cell rfl (by simp [St.obj_bump, St.obj_put]) (resD_cell rfl (by simp [St.obj_bump, St.obj_put]) resD_nil))) ⟨by decide, by decide, by decide, trivial⟩ ⟨⟨trivial, encTk_lt _ _⟩, trivial, trivial, trivial⟩ ⟨rfl, rfl⟩

end Go.Hl
set_option linter.unusedSectionVars false
set_option linter.unusedVariables false
set_option linter.unusedSimpArgs false
set_option maxRecDepth 100000
namespace Go.Hl
open Go Go.Proofs Go.RowKit

theorem noEscape_calls (d : D) (σ : St) : HCalls Tryd.prog 44 [d] σ (fun d' σ' => d' = d ∧ σ' = σ) := by
  intro g w vs hr hl
  simp only [RL] at hl
  obtain ⟨v, us, rfl, hv, rfl⟩ := hl
  have hf : Tryd.prog.funcs[44]? = some Tryd.f44 := rfl
  have hrun : (callFunc 44 #[v]).run Tryd.prog w = .ok (.value v) w := by kernel_rfl
  show NextOk Tryd.prog _ ((callFunc 44 #[v]).run Tryd.prog w)
  rw [hrun]
  exact ⟨d, g, σ, E.refl g w hr.gw, hr, hv, rfl, rfl⟩

def bytesL (s : ByteArray) : List (List D) := s.data.toList.map fun b => [.int .u8 (b.toNat : Int)]

theorem bytesL_length (s : ByteArray) : (bytesL s).length = s.size := by
  simp only [bytesL, List.length_map, Array.length_toList]; rfl
theorem bytesL_append (s t : ByteArray) : bytesL s ++ bytesL t = bytesL (s ++ t) := by
  simp [bytesL]
theorem bytesL_ok (s : ByteArray) : bytesOk (bytesL s) := by
  unfold bytesL
  generalize s.data.toList = l
  induction l with
  | nil => trivial
  | cons b l ih => exact ⟨⟨b, rfl⟩, ih⟩
theorem bytesD_L (s : ByteArray) : bytesD (bytesL s) = s := by
  unfold bytesD bytesL
  have : ∀ l : List UInt8, (l.map fun b => [D.int .u8 (b.toNat : Int)]).map byteOf = l := fun l => by
    induction l with
    | nil => rfl
    | cons b l ih => simp [byteOf, ih]
  rw [this]
theorem bytesL_lt (n : Nat) (s : ByteArray) : ltX n (bytesL s) := by
  unfold bytesL
  generalize s.data.toList = l
  induction l with
  | nil => trivial
  | cons b l ih => exact ⟨⟨trivial, trivial⟩, ih⟩

theorem copyCheck_calls (id : Nat) (a b : D) (ha : a = .nilp ∨ a = .ptr id 0) (σ : St) (ho : σ.obj id = some (.bx (some 69) [a, b])) :
    HCalls Tryd.prog 39 [.ptr id 0] σ (fun _ σ' => σ' = σ.put id (.bx (some 69) [.ptr id 0, b])) := by
  refine hcalls_body (fn := Tryd.f39) rfl c39 (by simp [h39]) (by simp [h39, Tryd.f39]) ?_
  intro M hP hr hnt hnx hwf hlt
  have hid := (hwf.obj _ _ ho).1
  simp only [h39, argEnv]
  rcases ha with rfl | rfl
  · refine hgo_sound 40 ?_
    simp -implicitDefEqProofs (maxSteps := 1000000) only [simpS, ↓condJ_true, ↓condJ_false, ↓reduceIte, Nat.reduceEqDiff, Nat.reduceLT, Nat.reduceLeDiff, reduceCtorEq, Nat.reduceAdd, Nat.reduceSub, noneS, listS, implies_true, forall_const, ne_eq, ho]
    refine hx_call (f := .fn 44) rfl (by rw [hP]; exact hcallD_func (noEscape_calls _ _)) ?_
    rintro _ _ ⟨rfl, rfl⟩
    refine hgo_sound 40 ?_
    simp -implicitDefEqProofs (maxSteps := 1000000) only [simpS, ↓condJ_true, ↓condJ_false, ↓reduceIte, Nat.reduceEqDiff, Nat.reduceLT, Nat.reduceLeDiff, reduceCtorEq, Nat.reduceAdd, Nat.reduceSub, noneS, listS, implies_true, forall_const, ne_eq, ho]
    exact fpost_keep (.inl rfl) rfl trivial (fun _ => by simp only [tupD, D.lt, ltL]) fun hw => rfl
  · refine hgo_sound 40 ?_
    simp -implicitDefEqProofs (maxSteps := 1000000) only [simpS, ↓condJ_true, ↓condJ_false, ↓reduceIte, Nat.reduceEqDiff, Nat.reduceLT, Nat.reduceLeDiff, reduceCtorEq, Nat.reduceAdd, Nat.reduceSub, noneS, listS, implies_true, forall_const, ne_eq, ho]
    exact fpost_keep (.inl rfl) rfl trivial (fun _ => by simp only [tupD, D.lt, ltL]) fun hw => (put_self ho).symm

theorem writeString_calls (id t n : Nat) (a : D) (s x : ByteArray) (ha : a = .nilp ∨ a = .ptr id 0) (σ : St) (ho : σ.obj id = some (.bx (some 69) [a, .slice (.tok t) 1 (bytesL s)])) (hne : id ≠ t)
    (ht : σ.obj t = some (.tok 5 n)) (hn : n = s.size) (hmax : s.size + x.size ≤ 140737488355328) :
    HCalls Tryd.prog 30 [.ptr id 0, .str x] σ (fun _ σ' => σ' = (σ.put t (.tok 5 (n + x.size))).put id (.bx (some 69) [.ptr id 0, .slice (.tok t) 1 (bytesL (s ++ x))])) := by
  refine hcalls_body (fn := Tryd.f30) rfl c30 (by simp [h30]) (by simp [h30, Tryd.f30]) ?_
  intro M hP hr hnt hnx hwf hlt
  simp only [h30, argEnv]
  refine hgo_sound 40 ?_
  simp -implicitDefEqProofs (maxSteps := 1000000) only [simpS, ↓condJ_true, ↓condJ_false, ↓reduceIte, Nat.reduceEqDiff, Nat.reduceLT, Nat.reduceLeDiff, reduceCtorEq, Nat.reduceAdd, Nat.reduceSub, noneS, listS, implies_true, forall_const, ne_eq]
  refine hx_call (f := .fn 39) rfl (by rw [hP]; exact hcallD_func (copyCheck_calls id a _ ha σ ho)) ?_
  rintro _ _ rfl
  have hxl : (List.map (fun b => [D.int IntKind.u8 (b.toNat : Int)]) x.data.toList).length = x.size := bytesL_length x
  have hb1 : (s.size + x.size) * 1 ≤ 140737488355328 := by omega
  have hb2 : s.size + x.size ≤ 9223372036854775807 := by omega
  refine hgo_sound 60 ?_
  simp -implicitDefEqProofs (maxSteps := 1000000) only [simpS, ↓condJ_true, ↓condJ_false, ↓reduceIte, Nat.reduceEqDiff, Nat.reduceLT, Nat.reduceLeDiff, reduceCtorEq, Nat.reduceAdd, Nat.reduceSub, noneS, listS, implies_true, forall_const, ne_eq, hne, Ne.symm hne, ht, bytesL_length, hxl, hb1, hb2, hn]
  refine fpost_keep (.inr rfl) rfl trivial (fun _ => ⟨trivial, trivial, trivial⟩) fun hw => ?_
  refine St.ext' (fun j => ?_) rfl rfl
  simp only [St.obj_put, bytesL_append, ← bytesL_append]
  by_cases q : j = id
  · simp [q]; rfl
  · simp [q]

theorem bstring_calls (id t n : Nat) (a : D) (s : ByteArray) (σ : St) (ho : σ.obj id = some (.bx (some 69) [a, .slice (.tok t) 1 (bytesL s)]))
    (ht : σ.obj t = some (.tok 5 n)) (hn : n = s.size) (hmax : s.size ≤ 140737488355328) :
    HCalls Tryd.prog 31 [.ptr id 0] σ (fun d σ' => d = .str s ∧ σ' = σ) := by
  refine hcalls_body (fn := Tryd.f31) rfl c31 (by simp [h31]) (by simp [h31, Tryd.f31]) ?_
  intro M hP hr hnt hnx hwf hlt
  simp only [h31, argEnv]
  have hnt' : M.nt = 14 := hnt
  refine hgo_sound 40 ?_
  simp -implicitDefEqProofs (maxSteps := 1000000) only [simpS, ↓condJ_true, ↓condJ_false, ↓reduceIte, Nat.reduceEqDiff, Nat.reduceLT, Nat.reduceLeDiff, reduceCtorEq, Nat.reduceAdd, Nat.reduceSub, noneS, listS, implies_true, forall_const, ne_eq]
  refine hx_drawgo 5 ?_
  have hbo := bytesL_ok s
  have hmx : s.size ≤ 9223372036854775807 := by omega
  simp -implicitDefEqProofs only [drawS, listS, List.getElem?_cons_zero, List.getElem?_cons_succ, List.getElem?_nil, simpS, ↓condJ_true, ↓condJ_false, ↓reduceIte, Nat.reduceEqDiff, Nat.reduceLT, Nat.reduceLeDiff, reduceCtorEq, Nat.reduceAdd, Nat.reduceSub, noneS, listS, implies_true, forall_const, ne_eq, hnt', ho, ht, hn, bytesL_length, hbo, hmx, bytesD_L]
  refine hgo_sound 5 ?_
  simp -implicitDefEqProofs (maxSteps := 1000000) only [simpS, ↓condJ_true, ↓condJ_false, ↓reduceIte, Nat.reduceEqDiff, Nat.reduceLT, Nat.reduceLeDiff, reduceCtorEq, Nat.reduceAdd, Nat.reduceSub, noneS, listS, implies_true, forall_const, ne_eq]
  exact fpost_keep (.inr rfl) rfl trivial (fun _ => trivial) fun hw => ⟨rfl, rfl⟩

def textT (s : ByteArray) (x : Tk3) : ByteArray := s.extract x.f x.t

theorem ttext_calls (s : ByteArray) (x : Tk3) (h1 : x.f ≤ x.t) (h2 : x.t ≤ s.size) (σ : St) : HCalls Tryd.prog 25 [.agg (encK3 x), .str s] σ (fun d σ' => d = .str (textT s x) ∧ σ' = σ) := by
  refine hcalls_body (fn := Tryd.f25) rfl c25 (by simp [h25]) (by simp [h25, Tryd.f25]) ?_
  intro M hP hr hnt hnx hwf hlt
  simp only [h25, argEnv]
  have d1 : decide ((x.f : Int) < 0) = false := decide_eq_false (by omega)
  have d2 : decide ((x.f : Int) > (x.t : Int)) = false := decide_eq_false (by omega)
  have d3 : decide ((x.t : Int) > (s.size : Int)) = false := decide_eq_false (by omega)
  have p1 : (0 : Int) ≤ (x.t : Int) ∧ (x.t : Int) ≤ (s.size : Int) ∧ (0 : Int) ≤ (x.f : Int) ∧ (x.f : Int) ≤ (x.t : Int) := by omega
  refine hgo_sound 90 ?_
  simp -implicitDefEqProofs (maxSteps := 1000000) only [simpS, ↓condJ_true, ↓condJ_false, ↓reduceIte, Nat.reduceEqDiff, Nat.reduceLT, Nat.reduceLeDiff, reduceCtorEq, Nat.reduceAdd, Nat.reduceSub, noneS, listS, implies_true, forall_const, ne_eq, d1, d2, d3, p1.1, p1.2.1, p1.2.2.1, p1.2.2.2, Int.toNat_natCast]
  exact fpost_pure (σ0 := σ) (.inr rfl) (by rw [hnx]; exact Nat.le_refl _) hwf (by first | exact Sub.refl σ | exact (((Ext.refl _).new _).sub hwf)) rfl trivial (by repeat' (first | trivial | apply And.intro)) ⟨rfl, rfl⟩

def addrB (id : Nat) : Bool → D
  | true => .ptr id 0
  | false => .nilp

end Go.Hl
set_option linter.unusedSectionVars false
set_option linter.unusedVariables false
set_option linter.unusedSimpArgs false
set_option maxRecDepth 100000
namespace Go.Hl
open Go Go.Proofs

inductive Nd where
  | mk (kind : Int) (gap text : ByteArray) (at_ : Int) (kids : List Nd)

def Nd.kind : Nd → Int
  | .mk k _ _ _ _ => k
def Nd.gap : Nd → ByteArray
  | .mk _ g _ _ _ => g
def Nd.text : Nd → ByteArray
  | .mk _ _ t _ _ => t
def Nd.at_ : Nd → Int
  | .mk _ _ _ a _ => a
def Nd.kids : Nd → List Nd
  | .mk _ _ _ _ ks => ks

mutual
def encN : Nd → List D
  | .mk k g t a ks => [.int .i64 k, .str g, .str t, .int .i64 a, .slice .no 5 (encNs ks)]
def encNs : List Nd → List (List D)
  | [] => []
  | n :: ns => encN n :: encNs ns
end

mutual
def preN (d : Int) : Nd → List (Int × Nd)
  | .mk k g t a ks => (d, .mk k g t a ks) :: preNs (d + 1) ks
def preNs (d : Int) : List Nd → List (Int × Nd)
  | [] => []
  | n :: ns => preN d n ++ preNs d ns
end

mutual
def cntN : Nd → Nat
  | .mk k g t a ks => 1 + cntNs ks
def cntNs : List Nd → Nat
  | [] => 0
  | n :: ns => cntN n + cntNs ns
end

theorem encNs_length : ∀ ks, (encNs ks).length = ks.length
  | [] => rfl
  | k :: ks => by simp [encNs, encNs_length ks]
theorem encN_length : ∀ n, (encN n).length = 5
  | .mk .. => rfl
theorem encN_take (n : Nd) : (encN n).take 5 = encN n := List.take_of_length_le (by rw [encN_length]; exact Nat.le_refl _)
theorem encN_kind : ∀ n, (encN n).getD 0 .undef = .int .i64 n.kind
  | .mk .. => rfl
theorem encN_gap : ∀ n, (encN n).getD 1 .undef = .str n.gap
  | .mk .. => rfl
theorem encN_text : ∀ n, (encN n).getD 2 .undef = .str n.text
  | .mk .. => rfl
theorem encN_at : ∀ n, (encN n).getD 3 .undef = .int .i64 n.at_
  | .mk .. => rfl
theorem encN_kids : ∀ n, (encN n).getD 4 .undef = .slice .no 5 (encNs n.kids)
  | .mk .. => rfl
theorem encNs_eq : ∀ ks, encNs ks = ks.map encN
  | [] => rfl
  | k :: ks => by simp [encNs, encNs_eq ks]
mutual
theorem encN_lt (n : Nat) : ∀ m : Nd, ltL n (encN m)
  | .mk k g t a ks => by simp only [encN, ltL, D.lt, Own.lt, true_and, and_true]; exact encNs_lt n ks
theorem encNs_lt (n : Nat) : ∀ ks : List Nd, ltX n (encNs ks)
  | [] => trivial
  | k :: ks => ⟨encN_lt n k, encNs_lt n ks⟩
end

def encX (x : Int × Nd) : List D := [.int .i64 x.1, .agg (encN x.2)]
def stp (x : Int × Nd) : List D := .int .i64 x.1 :: encN x.2
def encSt (st : List (Int × Nd)) : List (List D) := st.reverse.map stp
def walkSt : List (Int × Nd) → List (Int × Nd)
  | [] => []
  | (d, n) :: r => preN d n ++ walkSt r
def cntSt : List (Int × Nd) → Nat
  | [] => 0
  | (d, n) :: r => cntN n + cntSt r

theorem cntN_pos : ∀ n, 1 ≤ cntN n
  | .mk .. => by simp [cntN]
theorem len_le_cnt : ∀ st, st.length ≤ cntSt st
  | [] => Nat.le_refl _
  | (d, n) :: r => by
    have := len_le_cnt r
    have := cntN_pos n
    simp only [List.length_cons, cntSt]
    omega
theorem encSt_length (st) : (encSt st).length = st.length := by simp [encSt]
theorem encSt_getD (d n r) : (encSt ((d, n) :: r)).getD r.length [] = .int .i64 d :: encN n := by
  simp [encSt, stp, List.getD, List.getElem?_append]
theorem encSt_take (x r) : (encSt (x :: r)).take r.length = encSt r := by
  simp [encSt, List.take_append]
theorem ltX_append {n : Nat} : ∀ {xs ys : List (List D)}, ltX n (xs ++ ys) ↔ ltX n xs ∧ ltX n ys
  | [], ys => by simp [ltX]
  | x :: xs, ys => by simp only [List.cons_append, ltX, ltX_append (xs := xs), and_assoc]
theorem encSt_lt (n : Nat) : ∀ st, ltX n (encSt st)
  | [] => trivial
  | (d, m) :: r => by
    have : encSt ((d, m) :: r) = encSt r ++ [stp (d, m)] := by simp [encSt]
    rw [this, ltX_append]
    exact ⟨encSt_lt n r, ⟨⟨trivial, encN_lt n m⟩, trivial⟩⟩

theorem preNs_eq (d : Int) : ∀ ks, preNs d ks = walkSt (ks.map fun k => (d, k))
  | [] => rfl
  | k :: ks => by simp only [preNs, List.map_cons, walkSt, preNs_eq d ks]
theorem walkSt_append : ∀ a b, walkSt (a ++ b) = walkSt a ++ walkSt b
  | [], b => rfl
  | (d, n) :: a, b => by simp only [List.cons_append, walkSt, walkSt_append a b, List.append_assoc]
theorem walkSt_cons (d : Int) (m : Nd) (r : List (Int × Nd)) : walkSt ((d, m) :: r) = (d, m) :: walkSt (m.kids.map (fun k => (d + 1, k)) ++ r) := by
  obtain ⟨k, g, t, a, ks⟩ := m
  simp only [walkSt, preN, walkSt_append, preNs_eq, Nd.kids, List.cons_append]
theorem cntSt_append : ∀ a b, cntSt (a ++ b) = cntSt a + cntSt b
  | [], b => by simp [cntSt]
  | (d, n) :: a, b => by simp only [List.cons_append, cntSt, cntSt_append a b]; omega
theorem cntNs_eq (d : Int) : ∀ ks, cntSt (ks.map fun k => (d, k)) = cntNs ks
  | [] => rfl
  | k :: ks => by simp only [List.map_cons, cntSt, cntNs, cntNs_eq d ks]
theorem cntN_kids : ∀ m : Nd, cntN m = 1 + cntNs m.kids
  | .mk .. => rfl
theorem kids_le : ∀ ks : List Nd, ks.length ≤ cntNs ks
  | [] => Nat.le_refl _
  | k :: ks => by
    have := kids_le ks
    have := cntN_pos k
    simp only [List.length_cons, cntNs]
    omega
theorem cntN_mem : ∀ {ks : List Nd} {k : Nd}, k ∈ ks → cntN k ≤ cntNs ks
  | a :: ks, k, h => by
    rcases List.mem_cons.1 h with rfl | h
    · simp only [cntNs]; omega
    · have := cntN_mem h
      simp only [cntNs]; omega

def backI (ks : List Nd) : Nat → List (Int × Nd)
  | 0 => []
  | j + 1 => match ks[j]? with
    | some k => ((j : Int), k) :: backI ks j
    | none => backI ks j

theorem backI_map (d : Int) (ks : List Nd) : ∀ j, j ≤ ks.length → (backI ks j).map (fun x => (d, x.2)) = ((ks.take j).reverse).map (fun k => (d, k))
  | 0, _ => by simp [backI]
  | j + 1, h => by
    have hl : j < ks.length := h
    rw [List.take_succ_eq_append_getElem hl]
    simp only [backI, List.getElem?_eq_getElem hl, List.map_cons, List.reverse_append, List.reverse_cons, List.reverse_nil, List.nil_append, List.cons_append]
    rw [backI_map d ks j (by omega)]

theorem backI_len (ks : List Nd) : ∀ j, (backI ks j).length ≤ j
  | 0 => Nat.le_refl _
  | j + 1 => by
    have := backI_len ks j
    simp only [backI]
    split
    · simp only [List.length_cons]; omega
    · omega

theorem backward_calls (kss : List (List D)) (σ : St) : HCalls Tryd.prog 42 [.slice .no 5 kss] σ
    (fun d σ' => d = .func 53 [.eptr [.slice .no 5 kss] 0] ∧ σ' = σ) := by
  refine hcalls_body (fn := Tryd.f42) rfl c42 (by simp [h42]) (by simp [h42, Tryd.f42]) ?_
  intro M hP hr hnt hnx hwf hlt
  simp only [h42, argEnv]
  refine hgo_sound 60 ?_
  simp -implicitDefEqProofs (maxSteps := 1000000) only [simpS, ↓condJ_true, ↓condJ_false, ↓reduceIte, Nat.reduceEqDiff, Nat.reduceLT, Nat.reduceLeDiff, reduceCtorEq, Nat.reduceAdd, Nat.reduceSub, listS, implies_true, forall_const, ne_eq]
  refine fpost_frz [(σ.next, [.slice .no 5 kss])] false (.inr rfl) (by omega) hwf ((Ext.refl σ).new _ |>.sub hwf) rfl trivial (by simp [St.obj_new]) (by simp [tupD, frzD, frzL, lookF, look]) ?_ ⟨rfl, rfl⟩
  simpa [D.lt, ltL] using hlt

structure BS (C : Type) where
  j : Nat
  c : C

theorem backward_iter (ks : List Nd) (hlen : ks.length < 4611686018427387904) :
    Iter Tryd.prog 53 (fun y => [y, .eptr [.slice .no 5 (encNs ks)] 0]) encX (backI ks ks.length) := by
  intro tk c y hok hy
  refine hcalls_body (fn := Tryd.f53) rfl c53 (by simp [h53]) (by simp [h53, Tryd.f53]) ?_
  intro M hP hr hnt hnx hwf hlt
  simp only [h53, argEnv]
  refine hgo_sound 14 ?_
  simp -implicitDefEqProofs (maxSteps := 1000000) only [simpS, ↓condJ_true, ↓condJ_false, ↓reduceIte, Nat.reduceEqDiff, Nat.reduceLT, Nat.reduceLeDiff, reduceCtorEq, Nat.reduceAdd, Nat.reduceSub, listS, implies_true, forall_const, ne_eq]
  refine hx_know_code fun hw hl hn => ?_
  refine hx_loop (S := BS tk.C) (fun s => [(0, y), (1, .eptr [.slice .no 5 (encNs ks)] 0), (3, .int .i64 ((s.j : Int) - 1))]) (fun s => tk.T s.c)
    (fun s => s.j ≤ ks.length ∧ tk.oks s.c (backI ks s.j) ∧ tk.run c (backI ks ks.length) = tk.run s.c (backI ks s.j))
    (fun s => s.j) ⟨ks.length, c⟩ ⟨Nat.le_refl _, hok, rfl⟩ (fun _ _ h => by rw [hr] at h; cases h) ?_ ?_
  · rw [IntWalk.i64_in _ (by rw [encNs_length]; omega), encNs_length]
    exact Drop.all hw hn ⟨⟨rfl, hl 0⟩, ⟨rfl, hl 1⟩, ⟨rfl, trivial⟩, trivial⟩
  rintro ⟨j, c1⟩ ⟨h1, h6, h7⟩
  simp only at h1 h6 h7 ⊢
  refine hx_know_code fun hw1 hl1 hn1 => ?_
  cases j with
  | zero =>
    refine hgo_sound 20 ?_
    have hz : decide (((0 : Nat) : Int) - 1 ≥ 0) = false := rfl
    simp -implicitDefEqProofs (maxSteps := 1000000) only [simpS, ↓condJ_true, ↓condJ_false, ↓reduceIte, Nat.reduceEqDiff, Nat.reduceLT, Nat.reduceLeDiff, reduceCtorEq, Nat.reduceAdd, Nat.reduceSub, listS, implies_true, forall_const, ne_eq, hz]
    rw [h7]
    exact fpost_pure (.inl rfl) hn1 hw1 (Sub.refl _) rfl trivial (by simp only [tupD, D.lt, ltL]) rfl
  | succ j =>
    have hji : ((j + 1 : Nat) : Int) - 1 = (j : Int) := by omega
    rw [hji]
    have hjl : j < ks.length := h1
    simp only [backI, List.getElem?_eq_getElem hjl] at h6 h7
    refine hgo_sound 30 ?_
    have hz : (j : Int) ≥ 0 := by omega
    have hjj : (j : Int) < (encNs ks).length := by rw [encNs_length]; omega
    have hget : (encNs ks).getD j [] = encN ks[j] := by rw [encNs_eq]; simp [List.getD, hjl]
    simp -implicitDefEqProofs (maxSteps := 1000000) only [simpS, ↓condJ_true, ↓condJ_false, ↓reduceIte, Nat.reduceEqDiff, Nat.reduceLT, Nat.reduceLeDiff, reduceCtorEq, Nat.reduceAdd, Nat.reduceSub, listS, implies_true, forall_const, ne_eq, hz, Int.toNat_natCast, hjj, hget, encN_length, Nat.le_refl, Int.natCast_nonneg]
    refine hx_call rfl (by rw [hP]; exact hy.call c1 ((j : Int), ks[j]) (tk.T c1) (tk.low c1) h6.1) ?_
    rintro d σ2 ⟨rfl, rfl⟩
    rw [tk.mixT]
    refine hx_know_ops fun hw2 hl2 hn2 => ?_
    refine hgo_sound 20 ?_
    simp -implicitDefEqProofs (maxSteps := 1000000) only [simpS, ↓condJ_true, ↓condJ_false, ↓reduceIte, Nat.reduceEqDiff, Nat.reduceLT, Nat.reduceLeDiff, reduceCtorEq, Nat.reduceAdd, Nat.reduceSub, listS, implies_true, forall_const, ne_eq]
    refine ⟨fun hb => ?_, fun hb => ?_⟩
    · have hb' : (tk.step c1 (↑j, ks[j])).2 = false := by simpa using hb
      rw [h7, Tk.run_false hb']
      exact fpost_pure (.inr rfl) hn2 hw2 (Sub.refl _) rfl trivial (by simp only [tupD, D.lt, ltL]) rfl
    · have hb' : (tk.step c1 (↑j, ks[j])).2 = true := by simpa using hb
      intro _ _ _
      refine ⟨⟨j, _⟩, ⟨by simp only; omega, h6.2 hb', by rw [h7, Tk.run_true hb']⟩, Nat.lt_succ_self _, ?_⟩
      refine Drop.all hw2 hn2 ⟨⟨rfl, hl2 0⟩, ⟨rfl, hl2 1⟩, ⟨?_, trivial⟩, trivial⟩
      simp only [look, if_true, if_false, reduceIte, Nat.reduceEqDiff]
      rw [IntWalk.i64_in _ (by omega)]

end Go.Hl
