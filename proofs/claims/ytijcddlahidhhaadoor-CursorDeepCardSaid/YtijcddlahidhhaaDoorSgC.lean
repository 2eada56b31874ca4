/-
  Layer 5: numbers, as the program and the reference read them.
-/
import Derived.Test.YtijcddlahidhhaaDoorSgN
set_option linter.unusedSectionVars false
set_option linter.unusedVariables false
set_option linter.unusedSimpArgs false
set_option maxRecDepth 100000
namespace Go.Hl
open Go Go.Proofs Go.RowKit Go.Sort

def atoiD (s : ByteArray) (t : Nat) : D := match Lib.atoiAll s.data.toList with
  | .ok v => .tuple [.int .i64 v, .nili]
  | .range => .tuple [.int .i64 (Lib.atoiSat s.data.toList), .iface t .undef]
  | _ => .tuple [.int .i64 0, .iface t .undef]

theorem grow_below (w : World) (k : Nat) (os : Array Obj) : Below w.heap.size w (grow (w.drewN k) os) := by
  refine ⟨rfl, rfl, rfl, ?_, fun j hj => ?_⟩
  · show w.heap.size ≤ (w.heap ++ os).size
    rw [Array.size_append]
    omega
  · show (w.heap ++ os)[j]? = w.heap[j]?
    rw [Array.getElem?_append_left hj]

theorem errCell {σ : St} {g : G} {w : World} (hr : Rel Tryd.prog g σ w) {k : Nat} (h : ∃ t, σ.glob k = some [.iface t .undef]) : ∃ ev, w.cell? ⟨k, 0, none⟩ = some ev ∧ (ev = .nilIface ∨ ∃ te pe, ev = .iface te pe) := by
  obtain ⟨t, h⟩ := h
  obtain ⟨u, hu, hR⟩ := (hr.glob k _ h).cell (i := 0) (d := .iface t .undef) rfl
  simp only [R] at hR
  obtain ⟨p, rfl, _⟩ := hR
  exact ⟨_, hu, .inr ⟨_, _, rfl⟩⟩

theorem atoi_calls (s : ByteArray) (hs : s.size ≤ 140737488355328) (σ : St) (hg : GK σ) : HCalls Tryd.prog 67 [.str s] σ (fun d σ' => d = atoiD s 112 ∧ σ' = σ) := by
  refine hcalls_plain (by kernel_rfl) fun g w vs hr hl => ?_
  simp only [RL, R] at hl
  obtain ⟨u0, us, rfl, rfl, rfl⟩ := hl
  unfold atoiD
  cases h : Lib.atoiAll s.data.toList with
  | ok v =>
    refine (Tryd.strconv_Atoi_ok s (by omega) v h w).mono ?_
    rintro e w' ⟨rfl, hw⟩
    have hb : Below w.heap.size w w' := by
      rcases hw with rfl | ⟨t, rfl⟩
      · exact Below.refl _ _
      · exact below_bytes _ _ _
    obtain ⟨hE, hR⟩ := below_ER hr hb
    exact ⟨_, _, rfl, hE, hR, by simp only [R, RL]; exact ⟨_, rfl, _, _, rfl, rfl, _, _, rfl, rfl, rfl⟩, rfl, rfl⟩
  | range =>
    obtain ⟨ev, h1, h2⟩ := errCell hr hg.e2
    refine (Tryd.strconv_Atoi_range s (by omega) h ev w h1 h2).mono ?_
    rintro e w' ⟨N, rfl, _, _, hb⟩
    obtain ⟨hE, hR⟩ := below_ER hr hb
    exact ⟨_, _, rfl, hE, hR, by simp only [R, RL]; exact ⟨_, rfl, _, _, rfl, rfl, _, _, rfl, ⟨_, rfl, trivial⟩, rfl⟩, rfl, rfl⟩
  | _ =>
    obtain ⟨ev, h1, h2⟩ := errCell hr hg.e1
    refine (Tryd.strconv_Atoi_syntax s (by omega) h ev w h1 h2).mono ?_
    rintro e w' ⟨N, rfl, _, _, hb⟩
    obtain ⟨hE, hR⟩ := below_ER hr hb
    exact ⟨_, _, rfl, hE, hR, by simp only [R, RL]; exact ⟨_, rfl, _, _, rfl, rfl, _, _, rfl, ⟨_, rfl, trivial⟩, rfl⟩, rfl, rfl⟩

theorem itoa_calls (n : Int) (h0 : -9223372036854775808 ≤ n) (h1 : n ≤ 9223372036854775807) (σ : St) (hg : GK σ) : HCalls Tryd.prog 68 [.int .i64 n] σ (fun d σ' => d = .str ⟨(Lib.itoa n).toArray⟩ ∧ σ' = σ) := by
  refine hcalls_plain (by kernel_rfl) fun g w vs hr hl => ?_
  simp only [RL, R] at hl
  obtain ⟨u0, us, rfl, rfl, rfl⟩ := hl
  obtain ⟨e, z, hh⟩ := (hr.glob 4 _ hg.tab).ints
  refine (Tryd.strconv_Itoa n h0 h1 w ?_).mono ?_
  · unfold Lib.TabIs World.var?
    refine (congrArg (fun o => Option.bind o _) (by kernel_rfl : _ = some 4)).trans ?_
    simp [hh]
  rintro e w' ⟨rfl, k, os, rfl⟩
  obtain ⟨hE, hR⟩ := below_ER hr (grow_below w k os)
  exact ⟨_, _, rfl, hE, hR, by simp only [R], rfl, rfl⟩

end Go.Hl
