/-
  tree.Span; tree.Make, tree.Token.
-/
import Derived.Test.YtlaljehmcacmjaaTrE
set_option linter.unusedSectionVars false
set_option linter.unusedVariables false
set_option linter.unusedSimpArgs false
set_option maxRecDepth 100000
namespace Go.Hl
open Go Go.Proofs

structure SpC where
  a : Int
  b : Int
  ok : Bool

def spStep (c : SpC) (x : Nd) : SpC := if x.kind = 1 then ⟨if c.ok then c.a else x.at_, IntKind.i64.wrap (x.at_ + x.text.size), true⟩ else c

def spanS (σ : St) (n : Nd) (c : SpC) : St := (((σ.new (.box (encN n))).new (.box [.int .i64 c.a])).new (.box [.int .i64 c.b])).new (.box [.bool c.ok])

theorem spanS_wf {σ : St} (hw : σ.wf) (n : Nd) (c : SpC) : (spanS σ n c).wf :=
  (((hw.box (encN_lt _ n)).box (cs := [.int .i64 c.a]) ⟨trivial, trivial⟩).box (cs := [.int .i64 c.b]) ⟨trivial, trivial⟩).box (cs := [.bool c.ok]) ⟨trivial, trivial⟩

def spanTk (σ : St) (hw : σ.wf) (n : Nd) : Tk (Int × Nd) where
  C := SpC
  N := σ.next + 4
  T := spanS σ n
  ok _ _ := True
  step c x := (spStep c x.2, true)
  next _ := rfl
  glob _ _ := rfl
  wf := spanS_wf hw n

theorem span_takes (σ : St) (hw : σ.wf) (n : Nd) : (spanTk σ hw n).Takes Try.prog encX (.func 50 [.ptr (σ.next + 3) 0, .ptr (σ.next + 1) 0, .ptr (σ.next + 2) 0]) := by
  refine ⟨?_, rfl, ?_⟩
  · simp only [D.lt, ltL, spanTk]
    exact ⟨by omega, by omega, by omega, trivial⟩
  rintro ⟨a, b, ok⟩ ⟨dd, x⟩ τ hlow -
  rw [← hlow.eq]
  have hle : σ.next + 4 ≤ τ.next := hlow.next
  refine hcallD_func ?_
  refine hcalls_body (fn := Try.f50) rfl c50 (by simp [h50, encX]) (by simp [h50, Try.f50, encX]) ?_
  intro M hP hr hnt hnx hwf hlt
  rw [hlow.eq] at hwf
  simp only [h50, encX, List.cons_append, List.nil_append, argEnv]
  have n1 : ¬ τ.next < σ.next + 4 := by omega
  simp only [mix_mix, encX] at hnx ⊢
  have fin : ∀ (c : SpC) (e : Env), c = spStep ⟨a, b, ok⟩ x → look e 7 = .bool true →
      FPost M.gS.next [HR.tmp 7] (fun d σ' => d = .bool true ∧ σ' = mix (σ.next + 4) (spanS σ n (spStep ⟨a, b, ok⟩ x)) τ) .ret e (mix (σ.next + 4) (spanS σ n c) (τ.new (.box (encN x)))) := fun c e hc h7 =>
    fpost_mix (.inr rfl) hnx (by rw [hc]) (spanS_wf hw n _) rfl hwf hle ((Ext.refl τ).new _) (ds := [look e 7]) (p := True) rfl trivial h7 trivial
  by_cases hk : x.kind = 1
  · have hkd : (x.kind != 1) = false := by simp [hk]
    cases ok
    · refine hgo_sound 60 ?_
      simp -implicitDefEqProofs (maxSteps := 1000000) only [simpS, ↓condJ_true, ↓condJ_false, ↓reduceIte, Nat.reduceEqDiff, Nat.reduceLT, Nat.reduceLeDiff, reduceCtorEq, Nat.reduceAdd, Nat.reduceSub, Option.map_some, if_true, if_false, List.getD_cons_zero, List.getD_cons_succ, List.length_cons, List.length_nil, List.mem_cons, List.not_mem_nil, List.mem_append, List.nil_append, List.cons_append, List.append_nil, List.take_succ_cons, List.take_zero, List.drop_succ_cons, List.drop_zero, List.set_cons_zero, List.set_cons_succ, List.map_cons, List.map_nil, implies_true, forall_const, ne_eq, encN_length, encN_kind, encN_at, encN_text, spanTk, spanS, hkd, hle, n1]
      exact fin ⟨x.at_, IntKind.i64.wrap (x.at_ + x.text.size), true⟩ _ (by simp [spStep, hk]) rfl
    · refine hgo_sound 60 ?_
      simp -implicitDefEqProofs (maxSteps := 1000000) only [simpS, ↓condJ_true, ↓condJ_false, ↓reduceIte, Nat.reduceEqDiff, Nat.reduceLT, Nat.reduceLeDiff, reduceCtorEq, Nat.reduceAdd, Nat.reduceSub, Option.map_some, if_true, if_false, List.getD_cons_zero, List.getD_cons_succ, List.length_cons, List.length_nil, List.mem_cons, List.not_mem_nil, List.mem_append, List.nil_append, List.cons_append, List.append_nil, List.take_succ_cons, List.take_zero, List.drop_succ_cons, List.drop_zero, List.set_cons_zero, List.set_cons_succ, List.map_cons, List.map_nil, implies_true, forall_const, ne_eq, encN_length, encN_kind, encN_at, encN_text, spanTk, spanS, hkd, hle, n1]
      exact fin ⟨a, IntKind.i64.wrap (x.at_ + x.text.size), true⟩ _ (by simp [spStep, hk]) rfl
  · have hkd : (x.kind != 1) = true := by simp [hk]
    refine hgo_sound 60 ?_
    simp -implicitDefEqProofs (maxSteps := 1000000) only [simpS, ↓condJ_true, ↓condJ_false, ↓reduceIte, Nat.reduceEqDiff, Nat.reduceLT, Nat.reduceLeDiff, reduceCtorEq, Nat.reduceAdd, Nat.reduceSub, Option.map_some, if_true, if_false, List.getD_cons_zero, List.getD_cons_succ, List.length_cons, List.length_nil, List.mem_cons, List.not_mem_nil, List.mem_append, List.nil_append, List.cons_append, List.append_nil, List.take_succ_cons, List.take_zero, List.drop_succ_cons, List.drop_zero, List.set_cons_zero, List.set_cons_succ, List.map_cons, List.map_nil, implies_true, forall_const, ne_eq, encN_length, encN_kind, spanTk, spanS, hkd, hle, n1]
    exact fin ⟨a, b, ok⟩ _ (by simp [spStep, hk]) rfl

def spanRun : SpC → List (Int × Nd) → SpC
  | c, [] => c
  | c, x :: xs => spanRun (spStep c x.2) xs

theorem spanTk_run (σ : St) (hw : σ.wf) (n : Nd) : ∀ (xs : List (Int × Nd)) (c : SpC), ((spanTk σ hw n).run c xs).1 = spanRun c xs
  | [], c => rfl
  | x :: xs, c => by
    rw [Tk.run_true (tk := spanTk σ hw n) (c := c) rfl, spanRun]
    exact spanTk_run σ hw n xs _

theorem spanTk_oks (σ : St) (hw : σ.wf) (n : Nd) : ∀ (xs : List (Int × Nd)) (c : SpC), (spanTk σ hw n).oks c xs
  | [], c => trivial
  | x :: xs, c => ⟨trivial, fun _ => spanTk_oks σ hw n xs _⟩

def spanN (n : Nd) : SpC := spanRun ⟨0, 0, false⟩ (preN 0 n)

theorem span_calls (n : Nd) (hn : cntN n ≤ 1099511627776) (σ : St) : HCalls Try.prog 32 [.agg (encN n)] σ (fun d σ' => d = .tuple [.int .i64 (spanN n).a, .int .i64 (spanN n).b, .bool (spanN n).ok] ∧ σ' = σ) := by
  refine hcalls_body (fn := Try.f32) rfl c32 (by simp [h32]) (by simp [h32, Try.f32]) ?_
  intro M hP hr hnt hnx hwf hlt
  simp only [h32, argEnv]
  refine hgo_sound 40 ?_
  simp -implicitDefEqProofs (maxSteps := 1000000) only [simpS, ↓condJ_true, ↓condJ_false, ↓reduceIte, Nat.reduceEqDiff, Nat.reduceLT, Nat.reduceLeDiff, reduceCtorEq, Nat.reduceAdd, Nat.reduceSub, Option.map_some, if_true, if_false, List.getD_cons_zero, List.getD_cons_succ, List.length_cons, List.length_nil, List.mem_cons, List.not_mem_nil, List.mem_append, List.nil_append, List.cons_append, List.append_nil, List.take_succ_cons, List.take_zero, List.drop_succ_cons, List.drop_zero, List.set_cons_zero, List.set_cons_succ, List.map_cons, List.map_nil, implies_true, forall_const, ne_eq, encN_length]
  refine hx_call (f := .fn 34) rfl (by
    rw [hP]
    exact hcallD_func (down_iter n hn (spanTk σ hwf n) ⟨0, 0, false⟩ _ (spanTk_oks _ _ _ _ _) (span_takes _ _ _))) ?_
  rintro d σ2 rfl
  rw [spanTk_run]
  have hnt' : M.nt = 11 := hnt
  refine hgo_sound 40 ?_
  simp -implicitDefEqProofs (maxSteps := 1000000) only [simpS, ↓condJ_true, ↓condJ_false, ↓reduceIte, Nat.reduceEqDiff, Nat.reduceLT, Nat.reduceLeDiff, reduceCtorEq, Nat.reduceAdd, Nat.reduceSub, Option.map_some, if_true, if_false, List.getD_cons_zero, List.getD_cons_succ, List.length_cons, List.length_nil, List.mem_cons, List.not_mem_nil, List.mem_append, List.nil_append, List.cons_append, List.append_nil, List.take_succ_cons, List.take_zero, List.drop_succ_cons, List.drop_zero, List.set_cons_zero, List.set_cons_succ, List.map_cons, List.map_nil, implies_true, forall_const, ne_eq, spanTk, spanS]
  refine hx_drawgo 5 ?_
  simp -implicitDefEqProofs only [drawS, List.map_cons, List.map_nil, List.getElem?_cons_zero, List.getElem?_cons_succ, List.getElem?_nil, simpS, ↓condJ_true, ↓condJ_false, ↓reduceIte, Nat.reduceEqDiff, Nat.reduceLT, Nat.reduceLeDiff, reduceCtorEq, Nat.reduceAdd, Nat.reduceSub, Option.map_some, if_true, if_false, List.getD_cons_zero, List.getD_cons_succ, List.length_cons, List.length_nil, List.mem_cons, List.not_mem_nil, List.mem_append, List.nil_append, List.cons_append, List.append_nil, List.take_succ_cons, List.take_zero, List.drop_succ_cons, List.drop_zero, List.set_cons_zero, List.set_cons_succ, List.map_cons, List.map_nil, implies_true, forall_const, ne_eq, hnt']
  refine hgo_sound 5 ?_
  simp -implicitDefEqProofs (maxSteps := 1000000) only [simpS, ↓condJ_true, ↓condJ_false, ↓reduceIte, Nat.reduceEqDiff, Nat.reduceLT, Nat.reduceLeDiff, reduceCtorEq, Nat.reduceAdd, Nat.reduceSub, Option.map_some, if_true, if_false, List.getD_cons_zero, List.getD_cons_succ, List.length_cons, List.length_nil, List.mem_cons, List.not_mem_nil, List.mem_append, List.nil_append, List.cons_append, List.append_nil, List.take_succ_cons, List.take_zero, List.drop_succ_cons, List.drop_zero, List.set_cons_zero, List.set_cons_succ, List.map_cons, List.map_nil, implies_true, forall_const, ne_eq]
  exact fpost_pure (σ0 := σ) (.inr rfl) (by omega) hwf (((((Ext.refl σ).new _).new _).new _).new _ |>.sub hwf)
    (resD_cell (d := .int .i64 (spanN n).a) rfl (by simp [St.obj_new, St.next_new]; rfl) (resD_cell (d := .int .i64 (spanN n).b) rfl (by simp [St.obj_new, St.next_new]; rfl) (resD_cell (d := .bool (spanN n).ok) rfl (by simp [St.obj_new, St.next_new]; rfl) resD_nil)))
    ⟨by omega, by omega, by omega, trivial⟩ ⟨trivial, trivial, trivial, trivial⟩ ⟨rfl, rfl⟩

def SpanN (n : Nd) : SpC := if rightN n then spanN n else ⟨0, 0, false⟩

theorem Span_calls (n : Nd) (hn : cntN n ≤ 1099511627776) (σ : St) : HCalls Try.prog 9 [.agg (encN n)] σ (fun d σ' => d = .tuple [.int .i64 (SpanN n).a, .int .i64 (SpanN n).b, .bool (SpanN n).ok] ∧ σ' = σ) := by
  refine hcalls_body (fn := Try.f9) rfl c9 (by simp [h9]) (by simp [h9, Try.f9]) ?_
  intro M hP hr hnt hnx hwf hlt
  simp only [h9, argEnv]
  refine hgo_sound 40 ?_
  simp -implicitDefEqProofs (maxSteps := 1000000) only [simpS, ↓condJ_true, ↓condJ_false, ↓reduceIte, Nat.reduceEqDiff, Nat.reduceLT, Nat.reduceLeDiff, reduceCtorEq, Nat.reduceAdd, Nat.reduceSub, Option.map_some, if_true, if_false, List.getD_cons_zero, List.getD_cons_succ, List.length_cons, List.length_nil, List.mem_cons, List.not_mem_nil, List.mem_append, List.nil_append, List.cons_append, List.append_nil, List.take_succ_cons, List.take_zero, List.drop_succ_cons, List.drop_zero, List.set_cons_zero, List.set_cons_succ, List.map_cons, List.map_nil, implies_true, forall_const, ne_eq, encN_length]
  refine hx_call (f := .fn 11) rfl (by rw [hP]; exact hcallD_func (right_calls n hn _)) ?_
  rintro _ σ2 ⟨rfl, rfl⟩
  have hsub : Ext σ (σ.new (.box (encN n))) := (Ext.refl σ).new _
  refine hgo_sound 40 ?_
  simp -implicitDefEqProofs (maxSteps := 1000000) only [simpS, ↓condJ_true, ↓condJ_false, ↓reduceIte, Nat.reduceEqDiff, Nat.reduceLT, Nat.reduceLeDiff, reduceCtorEq, Nat.reduceAdd, Nat.reduceSub, Option.map_some, if_true, if_false, List.getD_cons_zero, List.getD_cons_succ, List.length_cons, List.length_nil, List.mem_cons, List.not_mem_nil, List.mem_append, List.nil_append, List.cons_append, List.append_nil, List.take_succ_cons, List.take_zero, List.drop_succ_cons, List.drop_zero, List.set_cons_zero, List.set_cons_succ, List.map_cons, List.map_nil, implies_true, forall_const, ne_eq, encN_length]
  refine ⟨fun hb => ?_, fun hb => ?_⟩
  · have hb' : rightN n = false := by simpa using hb
    have hs : SpanN n = ⟨0, 0, false⟩ := by simp [SpanN, hb']
    rw [hs]
    exact fpost_pure (σ0 := σ) (.inr rfl) (by omega) hwf (hsub.sub hwf) rfl trivial ⟨trivial, trivial, trivial, trivial⟩ ⟨rfl, rfl⟩
  · have hb' : rightN n = true := by simpa using hb
    have hs : SpanN n = spanN n := by simp [SpanN, hb']
    rw [hs]
    refine hx_call (f := .fn 32) rfl (by rw [hP]; exact hcallD_func (span_calls n hn _)) ?_
    rintro _ σ2 ⟨rfl, rfl⟩
    refine hgo_sound 40 ?_
    simp -implicitDefEqProofs (maxSteps := 1000000) only [simpS, ↓condJ_true, ↓condJ_false, ↓reduceIte, Nat.reduceEqDiff, Nat.reduceLT, Nat.reduceLeDiff, reduceCtorEq, Nat.reduceAdd, Nat.reduceSub, Option.map_some, if_true, if_false, List.getD_cons_zero, List.getD_cons_succ, List.length_cons, List.length_nil, List.mem_cons, List.not_mem_nil, List.mem_append, List.nil_append, List.cons_append, List.append_nil, List.take_succ_cons, List.take_zero, List.drop_succ_cons, List.drop_zero, List.set_cons_zero, List.set_cons_succ, List.map_cons, List.map_nil, implies_true, forall_const, ne_eq]
    exact fpost_pure (σ0 := σ) (.inr rfl) (by omega) hwf (hsub.sub hwf) rfl trivial ⟨trivial, trivial, trivial, trivial⟩ ⟨rfl, rfl⟩

theorem token_calls (g t : ByteArray) (a : Int) (σ : St) : HCalls Try.prog 31 [.str g, .str t, .int .i64 a] σ (fun d σ' => d = .agg (encN (.mk 1 g t a [])) ∧ σ' = σ) := by
  refine hcalls_body (fn := Try.f31) rfl c31 (by simp [h31]) (by simp [h31, Try.f31]) ?_
  intro M hP hr hnt hnx hwf hlt
  simp only [h31, argEnv]
  refine hgo_sound 40 ?_
  simp -implicitDefEqProofs (maxSteps := 1000000) only [simpS, ↓condJ_true, ↓condJ_false, ↓reduceIte, Nat.reduceEqDiff, Nat.reduceLT, Nat.reduceLeDiff, reduceCtorEq, Nat.reduceAdd, Nat.reduceSub, Option.map_some, if_true, if_false, List.getD_cons_zero, List.getD_cons_succ, List.length_cons, List.length_nil, List.mem_cons, List.not_mem_nil, List.mem_append, List.nil_append, List.cons_append, List.append_nil, List.take_succ_cons, List.take_zero, List.drop_succ_cons, List.drop_zero, List.set_cons_zero, List.set_cons_succ, List.map_cons, List.map_nil, implies_true, forall_const, ne_eq]
  refine fpost_wk (ds := [.agg [.int .i64 1, .str g, .str t, .int .i64 a, .slice .nil 0 []]]) (.agg (.cons (.refl _) (.cons (.refl _) (.cons (.refl _) (.cons (.refl _) (.cons .nil .nil)))))) (.inr rfl) (by omega) hwf (((Ext.refl σ).new _).sub hwf) (resD_cellS rfl (by simp [St.obj_new]; rfl) rfl resD_nil) ⟨by simp, trivial⟩ ⟨trivial, trivial, trivial, trivial, ⟨trivial, trivial⟩, trivial⟩ ⟨rfl, rfl⟩

theorem clone_calls (ks : List Nd) (o : Own) (hl : ks.length ≤ 1099511627776) (σ : St) : HCalls Try.prog 49 [.slice o 5 (encNs ks)] σ (fun d σ' => d = .slice .no 5 (encNs ks) ∧ σ' = σ) := by
  refine hcalls_body (fn := Try.f49) rfl c49 (by simp [h49]) (by simp [h49, Try.f49]) ?_
  intro M hP hr hnt hnx hwf hlt
  simp only [h49, argEnv]
  refine hgo_sound 40 ?_
  simp -implicitDefEqProofs (maxSteps := 1000000) only [simpS, ↓condJ_true, ↓condJ_false, ↓reduceIte, Nat.reduceEqDiff, Nat.reduceLT, Nat.reduceLeDiff, reduceCtorEq, Nat.reduceAdd, Nat.reduceSub, Option.map_some, if_true, if_false, List.getD_cons_zero, List.getD_cons_succ, List.length_cons, List.length_nil, List.mem_cons, List.not_mem_nil, List.mem_append, List.nil_append, List.cons_append, List.append_nil, List.take_succ_cons, List.take_zero, List.drop_succ_cons, List.drop_zero, List.set_cons_zero, List.set_cons_succ, List.map_cons, List.map_nil, implies_true, forall_const, ne_eq]
  refine hx_eqSl rfl fun b hb => ?_
  have hb1 : (encNs ks).length * 72 ≤ 140737488355328 := by rw [encNs_length]; omega
  have hb2 : (encNs ks).length ≤ 9223372036854775807 := by rw [encNs_length]; omega
  refine hgo_sound 40 ?_
  simp -implicitDefEqProofs (maxSteps := 1000000) only [simpS, ↓condJ_true, ↓condJ_false, ↓reduceIte, Nat.reduceEqDiff, Nat.reduceLT, Nat.reduceLeDiff, reduceCtorEq, Nat.reduceAdd, Nat.reduceSub, Option.map_some, if_true, if_false, List.getD_cons_zero, List.getD_cons_succ, List.length_cons, List.length_nil, List.mem_cons, List.not_mem_nil, List.mem_append, List.nil_append, List.cons_append, List.append_nil, List.take_succ_cons, List.take_zero, List.drop_succ_cons, List.drop_zero, List.set_cons_zero, List.set_cons_succ, List.map_cons, List.map_nil, implies_true, forall_const, ne_eq, hb1, hb2]
  refine ⟨fun h => ?_, fun h => ?_⟩
  · have h0 := hb h
    rw [h0]
    exact fpost_wk (ds := [.slice .nil 0 []]) (d := .slice .no 5 []) .nil (.inr rfl) (by omega) hwf (Sub.refl σ) rfl trivial ⟨trivial, trivial⟩ ⟨rfl, rfl⟩
  · exact fpost_pure (σ0 := σ) (.inr rfl) (by omega) hwf (Sub.refl σ) rfl trivial ⟨trivial, encNs_lt _ ks⟩ ⟨rfl, rfl⟩

theorem make_calls (k : Int) (ks : List Nd) (o : Own) (hl : ks.length ≤ 1099511627776) (σ : St) : HCalls Try.prog 30 [.int .i64 k, .slice o 5 (encNs ks)] σ (fun d σ' => d = .agg (encN (.mk k ⟨#[]⟩ ⟨#[]⟩ 0 ks)) ∧ σ' = σ) := by
  refine hcalls_body (fn := Try.f30) rfl c30 (by simp [h30]) (by simp [h30, Try.f30]) ?_
  intro M hP hr hnt hnx hwf hlt
  simp only [h30, argEnv]
  refine hgo_sound 40 ?_
  simp -implicitDefEqProofs (maxSteps := 1000000) only [simpS, ↓condJ_true, ↓condJ_false, ↓reduceIte, Nat.reduceEqDiff, Nat.reduceLT, Nat.reduceLeDiff, reduceCtorEq, Nat.reduceAdd, Nat.reduceSub, Option.map_some, if_true, if_false, List.getD_cons_zero, List.getD_cons_succ, List.length_cons, List.length_nil, List.mem_cons, List.not_mem_nil, List.mem_append, List.nil_append, List.cons_append, List.append_nil, List.take_succ_cons, List.take_zero, List.drop_succ_cons, List.drop_zero, List.set_cons_zero, List.set_cons_succ, List.map_cons, List.map_nil, implies_true, forall_const, ne_eq]
  refine hx_call (f := .fn 49) rfl (by rw [hP]; exact hcallD_func (clone_calls ks o hl _)) ?_
  rintro _ σ2 ⟨rfl, rfl⟩
  refine hgo_sound 40 ?_
  simp -implicitDefEqProofs (maxSteps := 1000000) only [simpS, ↓condJ_true, ↓condJ_false, ↓reduceIte, Nat.reduceEqDiff, Nat.reduceLT, Nat.reduceLeDiff, reduceCtorEq, Nat.reduceAdd, Nat.reduceSub, Option.map_some, if_true, if_false, List.getD_cons_zero, List.getD_cons_succ, List.length_cons, List.length_nil, List.mem_cons, List.not_mem_nil, List.mem_append, List.nil_append, List.cons_append, List.append_nil, List.take_succ_cons, List.take_zero, List.drop_succ_cons, List.drop_zero, List.set_cons_zero, List.set_cons_succ, List.map_cons, List.map_nil, implies_true, forall_const, ne_eq]
  exact fpost_pure (σ0 := σ) (ds := [.agg (encN (.mk k ⟨#[]⟩ ⟨#[]⟩ 0 ks))]) (.inr rfl) (by omega) hwf (((Ext.refl σ).new _).sub hwf) (resD_cellS (ot := none) rfl (by simp [St.obj_new, encN]) rfl resD_nil) ⟨by rw [encN_length]; omega, trivial⟩ (encN_lt _ (.mk k ⟨#[]⟩ ⟨#[]⟩ 0 ks)) ⟨rfl, rfl⟩

end Go.Hl
