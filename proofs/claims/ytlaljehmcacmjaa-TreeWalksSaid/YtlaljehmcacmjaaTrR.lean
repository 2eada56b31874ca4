/-
  Reading a tree that is handed in.
-/
import Derived.Test.YtlaljehmcacmjaaTrK
import Derived.Test.YtlaljehmcacmjaaHlT
import Derived.Test.YtlaljehmcacmjaaRows
set_option linter.unusedVariables false
namespace Go.Hl
open Go Go.Proofs

theorem read_node {H : Type} {enc : TypeId × Value → H} {W : World} {held : Bool} : ∀ (fuel : Nat) {cs : List Value} {d : DataW H} {ps : List MemPlace},
    DataW.trod enc Try.prog W 0 (fun _ => true) held fuel 25 cs = some (d, ps) → (∀ x ∈ d.weights Try.prog 25, x ≤ reachBytes) → ∃ n, RC g0 W (encN n) cs ∧ fitN n
  | 0, cs, d, ps, h, hwt => by simp [DataW.trod] at h
  | fuel + 1, cs, d, ps, h, hwt => by
    obtain ⟨hl, hf⟩ := trod_struct_w Try.underlying25 h
    have h25 : Try.prog.cellsOf 25 = 5 := by kernel_rfl
    have h22 : Try.prog.cellsOf 22 = 1 := by kernel_rfl
    have h9 : Try.prog.cellsOf 9 = 1 := by kernel_rfl
    have h3 : Try.prog.cellsOf 3 = 1 := by kernel_rfl
    have h23 : Try.prog.cellsOf 23 = 1 := by kernel_rfl
    have hmax : maxLen = 9223372036854775807 := rfl
    have hb25 : Try.prog.bytesOf 25 = 72 := by kernel_rfl
    have hrb := reachBytes_lt
    rw [h25] at hl
    match cs, hl with
    | [c0, c1, c2, c3, c4], _ =>
      have f0 : ∃ d' ps, DataW.trod enc Try.prog W 0 (fun _ => true) held fuel 22 [c0] = some (d', ps) ∧ ∀ n ∈ d'.weights Try.prog 22, n ∈ d.weights Try.prog 25 := by
        have := hf 0 _ rfl
        simpa [h22] using this
      obtain ⟨_, _, f0, w0⟩ := f0
      have f1 : ∃ d' ps, DataW.trod enc Try.prog W 0 (fun _ => true) held fuel 9 [c1] = some (d', ps) ∧ ∀ n ∈ d'.weights Try.prog 9, n ∈ d.weights Try.prog 25 := by
        have := hf 1 _ rfl
        simpa [h9] using this
      obtain ⟨_, _, f1, w1⟩ := f1
      have f2 : ∃ d' ps, DataW.trod enc Try.prog W 0 (fun _ => true) held fuel 9 [c2] = some (d', ps) ∧ ∀ n ∈ d'.weights Try.prog 9, n ∈ d.weights Try.prog 25 := by
        have := hf 2 _ rfl
        simpa [h9] using this
      obtain ⟨_, _, f2, w2⟩ := f2
      have f3 : ∃ d' ps, DataW.trod enc Try.prog W 0 (fun _ => true) held fuel 3 [c3] = some (d', ps) ∧ ∀ n ∈ d'.weights Try.prog 3, n ∈ d.weights Try.prog 25 := by
        have := hf 3 _ rfl
        simpa [h3] using this
      obtain ⟨_, _, f3, w3⟩ := f3
      have f4 : ∃ d' ps, DataW.trod enc Try.prog W 0 (fun _ => true) held fuel 23 [c4] = some (d', ps) ∧ ∀ n ∈ d'.weights Try.prog 23, n ∈ d.weights Try.prog 25 := by
        have := hf 4 _ rfl
        simpa [h23] using this
      obtain ⟨_, _, f4, w4⟩ := f4
      obtain ⟨k, rfl, wk⟩ := trod_int Try.underlying22 f0
      obtain ⟨g, rfl, wg⟩ := trod_string_w Try.underlying9 f1
      obtain ⟨t, rfl, wt⟩ := trod_string_w Try.underlying9 f2
      obtain ⟨a, rfl, wa⟩ := trod_int Try.underlying3 f3
      have kids : ∃ ks, R g0 W (.slice .no 5 (encNs ks)) c4 ∧ c4.oneCell' = true ∧ ks.length ≤ 140737488355328 ∧ fitNs ks := by
        cases fuel with
        | zero => simp [DataW.trod] at f4
        | succ fuel =>
          rcases trod_slice_w Try.underlying23 f4 with rfl | ⟨ad, len, cap, rfl, hlc, hcm, hcw, hel⟩
          · refine ⟨[], ?_, rfl, by simp, trivial⟩
            simp only [R, encNs]
            exact ⟨none, 0, rfl, Nat.le_refl _, ⟨rfl, rfl⟩, trivial, fun b off hA => by cases hA⟩
          · rw [h25] at hel
            have pick : ∀ j, j ≤ len → ∃ ks : List Nd, ks.length = j ∧ fitNs ks ∧ ∀ i n, ks[i]? = some n → ∃ cs, W.cells? 0 (ad.add ((len - j + i) * 5)) 5 = some cs ∧ RC g0 W (encN n) cs := by
              intro j
              induction j with
              | zero => exact fun _ => ⟨[], rfl, trivial, fun i n h => by simp at h⟩
              | succ j ih =>
                intro hj
                obtain ⟨ks, h1, h2, h3⟩ := ih (by omega)
                obtain ⟨cs, d', ps', hcs, htr, hww⟩ := hel (len - (j + 1)) (by omega)
                obtain ⟨n, hn, hok⟩ := read_node fuel htr fun x hx => hwt x (w4 x (hww x hx))
                refine ⟨n :: ks, by simp [h1], ⟨hok, h2⟩, fun i m hm => ?_⟩
                cases i with
                | zero =>
                  simp at hm
                  subst hm
                  exact ⟨cs, by simpa using hcs, hn⟩
                | succ i =>
                  obtain ⟨cs', q1, q2⟩ := h3 i m (by simpa using hm)
                  exact ⟨cs', by rwa [show len - (j + 1) + (i + 1) = len - j + i by omega], q2⟩
            obtain ⟨ks, h1, h2, h3⟩ := pick len (Nat.le_refl _)
            have hcell : ∀ (i : Nat) n, ks[i]? = some n → ∀ (j : Nat) dd, (encN n)[j]? = some dd → ∃ u, W.cell? ((ad.add (i * 5)).add j) = some u ∧ u.oneCell' = true ∧ R g0 W dd u := by
              intro i n hi j dd hj
              obtain ⟨cs, q1, q2⟩ := h3 i n hi
              rw [show len - len + i = i by omega] at q1
              obtain ⟨r1, r2⟩ := cells_read q1
              obtain ⟨u, hu, ho, hr⟩ := q2.get hj
              have hjl : j < 5 := by
                have := (List.getElem?_eq_some_iff.1 hj).1
                rwa [encN_length] at this
              obtain ⟨v, hv1, hv2⟩ := r2 j hjl
              rw [hu] at hv1
              injection hv1 with hv1
              subst hv1
              exact ⟨u, hv2, ho, hr⟩
            have hcb := hwt _ (w4 _ hcw)
            rw [hb25] at hcb
            refine ⟨ks, ?_, rfl, by omega, h2⟩
            simp only [R]
            refine ⟨some ad, cap, by rw [encNs_length, h1], by rw [encNs_length, h1]; exact hlc, ?_, trivial, fun b off hA => ?_⟩
            · by_cases hk : cap = 0
              · exact Or.inr hk
              · refine Or.inl ?_
                obtain ⟨cs, d', ps', hcs, _, _⟩ := hel 0 (by omega)
                obtain ⟨v, _, hv⟩ := (cells_read hcs).2 0 (by omega)
                have := (imm0 hv).1
                simpa [Addr.add] using this
            · injection hA with hA
              subst hA
              refine RX.of_get fun i x hx => ?_
              rw [encNs_eq] at hx
              obtain ⟨n, hn, rfl⟩ : ∃ n, ks[i]? = some n ∧ encN n = x := by simpa using hx
              refine ⟨encN_length n, RM.of_get fun j dd hj => ?_⟩
              obtain ⟨u, hu, ho, hr⟩ := hcell i n hn j dd hj
              obtain ⟨_, him⟩ := imm0 hu
              refine ⟨u, ?_, ho, hr⟩
              simpa [Addr.add_lit] using him
      obtain ⟨ks, hR, ho, hkl, hks⟩ := kids
      have wg := hwt _ (w1 _ wg)
      have wt := hwt _ (w2 _ wt)
      refine ⟨.mk k g t a ks, ?_, by omega, by omega, hkl, hks⟩
      simp only [encN, RC]
      exact ⟨_, _, rfl, ⟨rfl, by simp only [R]⟩, _, _, rfl, ⟨rfl, by simp only [R]⟩, _, _, rfl, ⟨rfl, by simp only [R]⟩, _, _, rfl, ⟨rfl, by simp only [R]⟩, _, _, rfl, ⟨ho, hR⟩, rfl⟩

end Go.Hl
