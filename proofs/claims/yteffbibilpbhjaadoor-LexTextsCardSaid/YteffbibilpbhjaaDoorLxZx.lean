/-
  LexTexts: for every input the law returns true; the listed variables tied to the program's text.
-/
import Derived.Test.YteffbibilpbhjaaDoorLxP
import Derived.Test.YteffbibilpbhjaaDoorHlT
import Derived.Test.YteffbibilpbhjaaDoorLxY
import Derived.Test.YteffbibilpbhjaaDoorTie
import Derived.Test.YteffbibilpbhjaaDoorCards
import Derived.ProofKit
import Derived.SizedLaws
import Derived.Carry
import Derived.OpenShut
import Derived.ChangeMaps5
import Derived.LaidLaws
import Derived.LaidHandle
import Derived.SevenTiedAt
set_option linter.unusedVariables false
namespace Go.Proofs.YteffbibilpbhjaaDoor
open Go.ChangeShapes Go.WideShapes Go.ChangeAt Go.RowKit Go.Hl

theorem own : ownKnob Tryd.prog.godebug = none := by kernel_rfl
theorem laidOut : laidOutB Tryd.prog = true := by kernel_rfl
theorem und9 : Tryd.prog.underlying 9 = some (.string) := by kernel_rfl
theorem undBool : Tryd.prog.underlying 4 = some .bool := by kernel_rfl

set_option maxRecDepth 100000 in
theorem read_tok {H : Type} {enc : TypeId × Value → H} {W : World} {base : Nat} {held : Bool} {v : Value} {d : DataW H} {p : List MemPlace} (hok : Value.okWide Tryd.prog W .any base 31 v) (h : DataW.Trod enc Tryd.prog W 0 (fun _ => true) held 31 v d p) :
    ∃ k f t, v = .agg #[.int .i64 k, .int .i64 f, .int .i64 t] := by
  obtain ⟨cs, rfl, hcs⟩ : ∃ cs, v = .agg cs ∧ cs.size = Tryd.prog.cellsOf 31 := by
    unfold Value.okWide at hok
    rw [Tryd.underlying31] at hok
    obtain ⟨cs, h1, h2, _⟩ := hok
    exact ⟨cs, h1, h2⟩
  obtain ⟨m, hm⟩ := h
  cases m with
  | zero => simp [DataW.trod] at hm
  | succ fuel =>
    obtain ⟨hl, hf⟩ := trod_struct_w Tryd.underlying31 hm
    have h3 : Tryd.prog.cellsOf 31 = 3 := by kernel_rfl
    have h1 : Tryd.prog.cellsOf 29 = 1 := by kernel_rfl
    have h2 : Tryd.prog.cellsOf 3 = 1 := by kernel_rfl
    rw [h3] at hl
    obtain ⟨l⟩ := cs
    have hl' : l.length = 3 := hl
    match l, hl' with
    | [c0, c1, c2], _ =>
      have f0 : ∃ d' ps, DataW.trod enc Tryd.prog W 0 (fun _ => true) held fuel 29 [c0] = some (d', ps) ∧ ∀ n ∈ d'.weights Tryd.prog 29, n ∈ d.weights Tryd.prog 31 := by
        have := hf 0 _ rfl
        simpa [h1, Value.cells] using this
      have f1 : ∃ d' ps, DataW.trod enc Tryd.prog W 0 (fun _ => true) held fuel 3 [c1] = some (d', ps) ∧ ∀ n ∈ d'.weights Tryd.prog 3, n ∈ d.weights Tryd.prog 31 := by
        have := hf 1 _ rfl
        simpa [h2, Value.cells] using this
      have f2 : ∃ d' ps, DataW.trod enc Tryd.prog W 0 (fun _ => true) held fuel 3 [c2] = some (d', ps) ∧ ∀ n ∈ d'.weights Tryd.prog 3, n ∈ d.weights Tryd.prog 31 := by
        have := hf 2 _ rfl
        simpa [h2, Value.cells] using this
      obtain ⟨_, _, f0, _⟩ := f0
      obtain ⟨_, _, f1, _⟩ := f1
      obtain ⟨_, _, f2, _⟩ := f2
      obtain ⟨k, rfl, _⟩ := trod_int Tryd.underlying29 f0
      obtain ⟨f, rfl, _⟩ := trod_int Tryd.underlying3 f1
      obtain ⟨t, rfl, _⟩ := trod_int Tryd.underlying3 f2
      exact ⟨k, f, t, rfl⟩

set_option maxRecDepth 100000 in
theorem lifted (os : Os) (started : os.Started) (H : Type) (enc : TypeId × Value → H) :
    ReturnsInHanded {} Tryd.checked os 6 .any (fun w args => (Rows.lexTextsSpec.pre enc Tryd.prog Tryd.f6 [] false w args ∧ laidMetH Tryd.prog laidL w) ∧ sizedMet enc Tryd.prog Tryd.f6 (OpenSpec.ofChange Rows.lexTextsSpec) false w args)
      (Rows.lexTextsSpec.post enc Tryd.prog Tryd.f6 false true false false) := by
  refine returns_shaped (C := Tryd.checked) (X := fun w _ => laidMetH Tryd.prog laidL w) (fun _ _ _ hh h => h.of_heap hh) own started (by kernel_rfl) Tryd.func6
    (ChangeSpec.witness_at (enc := enc) (C := Tryd.checked) (os := os) (X := fun w _ => laidMetH Tryd.prog laidL w) false (laidWorld os) #[.string ByteArray.empty, .agg #[.int .i64 0, .int .i64 0, .int .i64 0], .agg #[.int .i64 0, .int .i64 0, .int .i64 0]] 8 rfl (by kernel_rfl) (by kernel_rfl) (by kernel_rfl) (by kernel_rfl) (by kernel_rfl) (laidWorld_met os _)) ?_
  intro W base args ds gs before hsh hval0 hW hwt hL
  have hval : ∀ (j : Nat) t v, Tryd.f6.params[j]? = some t → args[j]? = some v → Value.okWide Tryd.prog W .any base t v := hval0
  have hW' := hW
  obtain ⟨p, q, hA0, hV, rfl, hfz, hnd⟩ := hW
  have hA : DataW.TrodAll enc Tryd.prog W 0 (fun _ => true) true Tryd.f6.params.toList args.toList ds p := hA0
  rw [Tryd.params6] at hA hval
  obtain ⟨v0, vs0, d0, ds0, p0, q0, hargs, rfl, rfl, h0, r0⟩ := trodAll_cons hA
  obtain ⟨v1, vs1, d1, ds1, p1, q1, rfl, rfl, rfl, h1, r1⟩ := trodAll_cons r0
  obtain ⟨v2, vs2, d2, ds2, p2, q2, rfl, rfl, rfl, h2, r2⟩ := trodAll_cons r1
  obtain ⟨rfl, rfl, rfl⟩ := trodAll_nil r2
  obtain rfl : args = #[v0, v1, v2] := by cases args; simp_all
  obtain ⟨rfl, rfl⟩ := trodVars_none hV
  have lt0 : ∀ x ∈ p0, x.block < W.heap.size := by obtain ⟨m, hm⟩ := h0; exact DataW.trod_lt m _ _ _ hm
  have lt1 : ∀ x ∈ p1, x.block < W.heap.size := by obtain ⟨m, hm⟩ := h1; exact DataW.trod_lt m _ _ _ hm
  have lt2 : ∀ x ∈ p2, x.block < W.heap.size := by obtain ⟨m, hm⟩ := h2; exact DataW.trod_lt m _ _ _ hm
  have k0 := h0
  have k1 := h1
  have k2 := h2
  obtain ⟨ka, fa, ta, rfl⟩ := read_tok (hval 1 31 v1 rfl rfl) h1
  obtain ⟨kb, fb, tb, rfl⟩ := read_tok (hval 2 31 v2 rfl rfl) h2
  obtain ⟨s, rfl, rfl, rfl, w0⟩ := Go.ChangeMaps.open_string und9 (hval 0 9 v0 rfl rfl) h0
  obtain ⟨σ, hg, hrel⟩ := start_of (show laidMet Tryd.prog laidL W from hL) hsh
  have hcall := calls_ofG (W := W) (by kernel_rfl) hrel (lexTexts_calls s (ka, fa, ta) (kb, fb, tb) σ hg) (vs := [.string s, .agg #[.int .i64 ka, .int .i64 fa, .int .i64 ta], .agg #[.int .i64 kb, .int .i64 fb, .int .i64 tb]]) (by
    simp only [RL, R, RC, encT3]
    exact ⟨_, _, rfl, rfl, _, _, rfl, ⟨_, rfl, _, _, rfl, ⟨rfl, rfl⟩, _, _, rfl, ⟨rfl, rfl⟩, _, _, rfl, ⟨rfl, rfl⟩, rfl⟩, _, _, rfl, ⟨_, rfl, _, _, rfl, ⟨rfl, rfl⟩, _, _, rfl, ⟨rfl, rfl⟩, _, _, rfl, ⟨rfl, rfl⟩, rfl⟩, rfl⟩)
  refine hcall.mono fun e W' he => ?_
  obtain ⟨v, d, g', σ', rfl, bel, hd, rfl, _⟩ := he
  simp only [R] at hd
  subst hd
  exact ⟨_, rfl, _, _, _, [], _, [], hW', trodAll_mk1 (shut_bool undBool _), (trodAll_cons_mk (Below.trod laidOut (by kernel_rfl) (of_decide_eq_true (by kernel_rfl)) k0 bel lt0) (trodAll_cons_mk (Below.trod laidOut (by kernel_rfl) (of_decide_eq_true (by kernel_rfl)) k1 bel lt1) (trodAll_cons_mk (Below.trod laidOut (by kernel_rfl) (of_decide_eq_true (by kernel_rfl)) k2 bel lt2) trodAll_mk0))), rfl, bel.frame _, fun h => by cases h⟩

theorem lexTexts_holds : Rows.LexTextsSaid :=
  OpenClaim.holds_of_wide 6 Tryd.f6 rfl rfl rfl rfl rfl rfl rfl ⟨rfl, rfl, rfl, rfl, rfl⟩ rfl rfl rfl rfl rfl (by kernel_rfl) Tryd.func6 (by kernel_rfl)
    (of_decide_eq_true (by kernel_rfl)) (by unfold Func.isWrapper; first | (rw [if_pos (by decide +kernel)]; kernel_rfl) | (rw [if_neg (by decide +kernel)]; exact ⟨rfl, rfl⟩))
    (fun os started H enc _ => lifted os started H enc)

theorem lexTextsCardProved : Rows.LexTextsCardSaid :=
  Claim7.holds_tied_plain_at .later [] Rows.lexTextsCard.laidKinds true Rows.lexTextsCard.stood.harness true
    lexTexts_holds (fun _ h => by cases h) (by kernel_rfl) (fun _ h => by cases h) lexTexts_row_tie rfl ⟨rfl, rfl⟩ (by kernel_rfl) rfl
    (fun f fn hf hfn => by
      obtain rfl : f = 6 := Option.some.inj ((show Tryd.prog.funcNamed Rows.lexTextsRow.func = some 6 by kernel_rfl).symm.trans hf) |>.symm
      obtain rfl : fn = Tryd.f6 := (Option.some.inj (Tryd.func6.symm.trans hfn)).symm
      exact ⟨by kernel_rfl, fun j t ht => by
        rw [Tryd.params6] at ht
        have hm : t ∈ Tryd.f6.params.toList := by rw [Tryd.params6]; exact Array.mem_toList_iff.2 (Array.mem_of_getElem? ht)
        have hx := List.all_eq_true.1 (show Tryd.f6.params.toList.all (fun t => !Tryd.prog.wantsStandIn t) = true by kernel_rfl) t hm
        exact (show Tryd.prog.wantsStandIn t = false by simpa using hx)⟩)
    (by kernel_rfl)

end Go.Proofs.YteffbibilpbhjaaDoor
