/-
  CursorPlays: for every input the law returns true; the listed variables tied to the program's text.
-/
import Derived.Test.YtijcddlahidhhaaGreatDoorCuG
import Derived.Test.YtijcddlahidhhaaGreatDoorHlX
import Derived.Test.YtijcddlahidhhaaGreatDoorTie
import Derived.Test.YtijcddlahidhhaaGreatDoorCards
import Derived.ProofKit
import Derived.SizedLaws
import Derived.Carry
import Derived.OpenShut
import Derived.ChangeMaps5
import Derived.LaidLaws
import Derived.LaidHandle
import Derived.SevenTiedAt
set_option linter.unusedVariables false
namespace Go.Proofs.YtijcddlahidhhaaGreatDoor
open Go.ChangeShapes Go.WideShapes Go.ChangeAt Go.RowKit Go.Hl

theorem own : ownKnob Tryz.prog.godebug = none := by kernel_rfl
theorem laidOut : laidOutB Tryz.prog = true := by kernel_rfl
theorem und9 : Tryz.prog.underlying 9 = some (.string) := by kernel_rfl
theorem undBool : Tryz.prog.underlying 4 = some .bool := by kernel_rfl

set_option maxRecDepth 100000 in
theorem read_act {H : Type} {enc : TypeId × Value → H} {W : World} {held : Bool} {fuel : Nat} {cs : List Value} {d : DataW H} {ps : List MemPlace} (h : DataW.trod enc Tryz.prog W 0 (fun _ => true) held fuel 36 cs = some (d, ps)) :
    ∃ t : Act8, RC g0 W (encA t) cs := by
  cases fuel with
  | zero => simp [DataW.trod] at h
  | succ fuel =>
    obtain ⟨hl, hf⟩ := trod_struct_w Tryz.underlying36 h
    have h4 : Tryz.prog.cellsOf 36 = 4 := by kernel_rfl
    have h1 : Tryz.prog.cellsOf 3 = 1 := by kernel_rfl
    have h2 : Tryz.prog.cellsOf 9 = 1 := by kernel_rfl
    rw [h4] at hl
    match cs, hl with
    | [c0, c1, c2, c3], _ =>
      have f0 : ∃ d' ps, DataW.trod enc Tryz.prog W 0 (fun _ => true) held fuel 3 [c0] = some (d', ps) ∧ ∀ n ∈ d'.weights Tryz.prog 3, n ∈ d.weights Tryz.prog 36 := by
        have := hf 0 _ rfl
        simpa [h1] using this
      have f1 : ∃ d' ps, DataW.trod enc Tryz.prog W 0 (fun _ => true) held fuel 3 [c1] = some (d', ps) ∧ ∀ n ∈ d'.weights Tryz.prog 3, n ∈ d.weights Tryz.prog 36 := by
        have := hf 1 _ rfl
        simpa [h1] using this
      have f2 : ∃ d' ps, DataW.trod enc Tryz.prog W 0 (fun _ => true) held fuel 3 [c2] = some (d', ps) ∧ ∀ n ∈ d'.weights Tryz.prog 3, n ∈ d.weights Tryz.prog 36 := by
        have := hf 2 _ rfl
        simpa [h1] using this
      have f3 : ∃ d' ps, DataW.trod enc Tryz.prog W 0 (fun _ => true) held fuel 9 [c3] = some (d', ps) ∧ ∀ n ∈ d'.weights Tryz.prog 9, n ∈ d.weights Tryz.prog 36 := by
        have := hf 3 _ rfl
        simpa [h2] using this
      obtain ⟨_, _, f0, _⟩ := f0
      obtain ⟨_, _, f1, _⟩ := f1
      obtain ⟨_, _, f2, _⟩ := f2
      obtain ⟨_, _, f3, _⟩ := f3
      obtain ⟨k, rfl, _⟩ := trod_int Tryz.underlying3 f0
      obtain ⟨n, rfl, _⟩ := trod_int Tryz.underlying3 f1
      obtain ⟨a, rfl, _⟩ := trod_int Tryz.underlying3 f2
      obtain ⟨x, rfl, _⟩ := trod_string_w Tryz.underlying9 f3
      refine ⟨⟨k, n, a, x⟩, ?_⟩
      simp only [RC, R, encA]
      exact ⟨_, _, rfl, ⟨rfl, rfl⟩, _, _, rfl, ⟨rfl, rfl⟩, _, _, rfl, ⟨rfl, rfl⟩, _, _, rfl, ⟨rfl, rfl⟩, rfl⟩

set_option maxRecDepth 100000 in
theorem lifted (os : Os) (started : os.Started) (H : Type) (enc : TypeId × Value → H) :
    ReturnsInHanded {} Tryz.checked os 3 .any (fun w args => (Rows.cursorPlaysSpec.pre enc Tryz.prog Tryz.f3 [] false w args ∧ laidMetH Tryz.prog laidL w) ∧ sizedMet enc Tryz.prog Tryz.f3 (OpenSpec.ofChange Rows.cursorPlaysSpec) false w args)
      (Rows.cursorPlaysSpec.post enc Tryz.prog Tryz.f3 false true false false) := by
  refine returns_shaped (C := Tryz.checked) (X := fun w _ => laidMetH Tryz.prog laidL w) (fun _ _ _ hh h => h.of_heap hh) own started (by kernel_rfl) Tryz.func3
    (ChangeSpec.witness_at (enc := enc) (C := Tryz.checked) (os := os) (X := fun w _ => laidMetH Tryz.prog laidL w) false (laidWorld os) #[.string ByteArray.empty, .slice none 0 0] 8 rfl (by kernel_rfl) (by kernel_rfl) (by kernel_rfl) (by kernel_rfl) (by kernel_rfl) (laidWorld_met os _)) ?_
  intro W base args ds gs before hsh hval0 hW hwt hL
  have hval : ∀ (j : Nat) t v, Tryz.f3.params[j]? = some t → args[j]? = some v → Value.okWide Tryz.prog W .any base t v := hval0
  have hW' := hW
  obtain ⟨p, q, hA0, hV, rfl, hfz, hnd⟩ := hW
  have hA : DataW.TrodAll enc Tryz.prog W 0 (fun _ => true) true Tryz.f3.params.toList args.toList ds p := hA0
  rw [Tryz.params3] at hA hval
  obtain ⟨v0, vs0, d0, ds0, p0, q0, hargs, rfl, rfl, h0, r0⟩ := trodAll_cons hA
  obtain ⟨v1, vs1, d1, ds1, p1, q1, rfl, rfl, rfl, h1, r1⟩ := trodAll_cons r0
  obtain ⟨rfl, rfl, rfl⟩ := trodAll_nil r1
  obtain rfl : args = #[v0, v1] := by cases args; simp_all
  obtain ⟨rfl, rfl⟩ := trodVars_none hV
  have lt0 : ∀ x ∈ p0, x.block < W.heap.size := by obtain ⟨m, hm⟩ := h0; exact DataW.trod_lt m _ _ _ hm
  have lt1 : ∀ x ∈ p1, x.block < W.heap.size := by obtain ⟨m, hm⟩ := h1; exact DataW.trod_lt m _ _ _ hm
  have k0 := h0
  have k1 := h1
  have hw1 : ∀ x ∈ d1.weights Tryz.prog 22, x ≤ reachBytes := fun x hx => by simpa using List.all_eq_true.1 hwt x (DataW.weights_mem_each (j := 1) (t := 22) (d := d1) (by rw [Tryz.params3]; rfl) rfl x hx)
  obtain ⟨l, hR, _⟩ : ∃ l : List Act8, R g0 W (.slice .no 4 (encAs l)) v1 ∧ True := by
    have hok := hval 1 22 v1 rfl rfl
    obtain ⟨m, hm⟩ := h1
    cases m with
    | zero => simp [DataW.trod] at hm
    | succ m =>
      obtain ⟨A, len, cap, rfl⟩ := okWide_slice Tryz.underlying22 hok
      obtain ⟨l, hl, _⟩ := read_slice (en := encA) (ok := fun _ => True) Tryz.underlying22 (show Tryz.prog.cellsOf 36 = 4 by kernel_rfl) (by decide) (fun _ => rfl) (fun cs d ps h _ => by obtain ⟨t, ht⟩ := read_act h; exact ⟨t, ht, trivial⟩) hm hw1
      exact ⟨l, hl, trivial⟩
  obtain ⟨s, rfl, rfl, rfl, w0⟩ := Go.ChangeMaps.open_string und9 (hval 0 9 v0 rfl rfl) h0
  obtain ⟨σ, hg, hrel⟩ := start_of (show laidMet Tryz.prog laidL W from hL) hsh
  have hcall := calls_ofG (W := W) (by kernel_rfl) hrel (cursorPlays_calls s l σ hg) (vs := [.string s, v1]) (by
    simp only [RL]
    exact ⟨_, _, rfl, by simp only [R], _, _, rfl, hR, rfl⟩)
  refine hcall.mono fun e W' he => ?_
  obtain ⟨v, d, g', σ', rfl, bel, hd, hq⟩ := he
  obtain rfl : d = .bool true := by first | exact hq | exact hq.1
  simp only [R] at hd
  subst hd
  exact ⟨_, rfl, _, _, _, [], _, [], hW', trodAll_mk1 (shut_bool undBool _), (trodAll_cons_mk (Below.trod laidOut (by kernel_rfl) (of_decide_eq_true (by kernel_rfl)) k0 bel lt0) (trodAll_cons_mk (Below.trod laidOut (by kernel_rfl) (of_decide_eq_true (by kernel_rfl)) k1 bel lt1) trodAll_mk0)), rfl, bel.frame _, fun h => by cases h⟩

theorem cursorPlays_holds : Rows.CursorPlaysSaid :=
  OpenClaim.holds_of_wide 3 Tryz.f3 rfl rfl rfl rfl rfl rfl rfl ⟨rfl, rfl, rfl, rfl, rfl⟩ rfl rfl rfl rfl rfl (by kernel_rfl) Tryz.func3 (by kernel_rfl)
    (of_decide_eq_true (by kernel_rfl)) (by unfold Func.isWrapper; first | (rw [if_pos (by decide +kernel)]; kernel_rfl) | (rw [if_neg (by decide +kernel)]; exact ⟨rfl, rfl⟩))
    (fun os started H enc _ => lifted os started H enc)

theorem cursorPlaysCardProved : Rows.CursorPlaysCardSaid :=
  Claim7.holds_tied_plain_at .later [] Rows.cursorPlaysCard.laidKinds true Rows.cursorPlaysCard.stood.harness true
    cursorPlays_holds (fun _ h => by cases h) (by kernel_rfl) (fun _ h => by cases h) cursorPlays_row_tie rfl ⟨rfl, rfl⟩ (by kernel_rfl) rfl
    (fun f fn hf hfn => by
      obtain rfl : f = 3 := Option.some.inj ((show Tryz.prog.funcNamed Rows.cursorPlaysRow.func = some 3 by kernel_rfl).symm.trans hf) |>.symm
      obtain rfl : fn = Tryz.f3 := (Option.some.inj (Tryz.func3.symm.trans hfn)).symm
      exact ⟨by kernel_rfl, fun j t ht => by
        rw [Tryz.params3] at ht
        have hm : t ∈ Tryz.f3.params.toList := by rw [Tryz.params3]; exact Array.mem_toList_iff.2 (Array.mem_of_getElem? ht)
        have hx := List.all_eq_true.1 (show Tryz.f3.params.toList.all (fun t => !Tryz.prog.wantsStandIn t) = true by kernel_rfl) t hm
        exact (show Tryz.prog.wantsStandIn t = false by simpa using hx)⟩)
    (by kernel_rfl)

end Go.Proofs.YtijcddlahidhhaaGreatDoor
