/-
  A start in which the package's variables hold what the row lists.
-/
import Derived.Test.YtijcddlahidhhaaDoorHlW
import Derived.LaidLaws
set_option linter.unusedSectionVars false
set_option linter.unusedVariables false
namespace Go.Hl
open Go Go.RowKit

def σG (gl : Nat → Option (List D)) : St := ⟨fun _ => none, gl, 0⟩

theorem RC_of {g : G} {w : World} : ∀ {ds : List D} {vs : List Value}, vs.length = ds.length → (∀ (i : Nat) d v, ds[i]? = some d → vs[i]? = some v → v.oneCell' = true ∧ R g w d v) → RC g w ds vs
  | [], [], _, _ => by simp only [RC]
  | [], _ :: _, h, _ => by simp at h
  | _ :: _, [], h, _ => by simp at h
  | d :: ds, v :: vs, h, k => by
    simp only [RC]
    exact ⟨v, vs, rfl, k 0 d v rfl rfl, RC_of (by simpa using h) fun i d' v' h1 h2 => k (i + 1) d' v' (by simpa using h1) (by simpa using h2)⟩

theorem relG {P : Program} {W : World} {gl : Nat → Option (List D)} (h : ∀ k cs, gl k = some cs → ∃ c e z, W.heap[k]? = some (.cells c e z) ∧ RC g0 W cs c.toList) : Rel P g0 (σG gl) W where
  gw := (rel0 P W).gw
  next := rfl
  obj := fun _ _ h => by cases h
  glob := fun k cs hk => ⟨h k cs hk, fun _ _ h => by cases h⟩

theorem calls_ofG {P : Program} {f : Nat} {ds : List D} {vs : List Value} {W : World} {σ : St} {Q : D → St → Prop} (hb : hasBody P f = true) (hrel : Rel P g0 σ W) (h : HCalls P f ds σ Q) (hr : RL g0 W ds vs) :
    Calls P f vs.toArray W fun e W' => ∃ v d g' σ', e = .returned v ∧ Below W.heap.size W W' ∧ R g' W' d v ∧ Q d σ' := by
  have h1 := h g0 W vs hrel hr
  rw [callFunc_has hb] at h1
  refine callsIn_wide.1 (CallsIn.mono h1 ?_)
  intro e W' he
  cases e <;> simp only [HRet] at he
  obtain ⟨d, g', σ', hE, hR, hd, hq⟩ := he
  exact ⟨_, d, g', σ', rfl, ⟨hE.out.os, hE.out.tape, hE.out.output, hE.size, fun k hk => hE.still k hk (fun id h ha => by cases ha)⟩, hd, hq⟩

section
variable {H : Type} {enc : TypeId × Value → H} {P : Program} {W : World} {sp : Nat → Bool} {held : Bool}

theorem var_heap {n : String} {k : Nat} {cs : Array Value} (hg : P.globalNamed n = some k) (hv : W.var? P n = some cs) : ∃ e z, W.heap[k]? = some (.cells cs e z) := by
  unfold World.var? at hv
  simp only [hg, Option.bind_some] at hv
  split at hv
  · rename_i c e z hh
    injection hv with hv
    subst hv
    exact ⟨e, z, hh⟩
  · cases hv

theorem trod_array1 {t e n : Nat} (hu : P.underlying t = some (.array n e)) (hc : P.cellsOf e = 1) (ht : P.cellsOf t = n) {fuel : Nat} {cs : List Value} {ds : List (DataW H)} {ps : List MemPlace} (h : DataW.trod enc P W 0 sp held fuel t cs = some (.agg ds, ps)) :
    cs.length = n ∧ ds.length = n ∧ ∃ fuel', ∀ (i : Nat) v d, cs[i]? = some v → ds[i]? = some d → ∃ ps, DataW.trod enc P W 0 sp held fuel' e [v] = some (d, ps) := by
  cases fuel with
  | zero => simp [DataW.trod] at h
  | succ fuel =>
    unfold DataW.trod at h
    rw [hu] at h
    simp only at h
    split at h; rotate_left; · cases h
    rename_i hl
    obtain ⟨xs, hx, he⟩ := Option.map_eq_some_iff.1 h
    obtain ⟨l2, h2⟩ := opt_mapM hx
    simp only [Prod.mk.injEq, DataW.agg.injEq] at he
    obtain ⟨rfl, _⟩ := he
    simp only [List.length_range] at l2
    rw [ht] at hl
    refine ⟨hl, by simp [l2], fuel, fun i v d hv hd => ?_⟩
    have hi : i < n := by rw [← hl]; exact (List.getElem?_eq_some_iff.1 hv).1
    obtain ⟨y, hy, hd'⟩ := h2 i i (by simp [hi])
    simp only [List.getElem?_map, hy, Option.map_some, Option.some.injEq] at hd
    subst hd
    rw [hc, Nat.mul_one] at hd'
    have e1 : (cs.drop i).take 1 = [v] := by
      obtain ⟨h0, h1⟩ := List.getElem?_eq_some_iff.1 hv
      rw [List.drop_eq_getElem_cons h0, h1]
      rfl
    rw [e1] at hd'
    exact ⟨y.2, hd'⟩

theorem RC_strs {t e n : Nat} (hu : P.underlying t = some (.array n e)) (hs : P.underlying e = some .string) (hc : P.cellsOf e = 1) (ht : P.cellsOf t = n) {fuel : Nat} {cs : List Value} {l : List ByteArray} {ps : List MemPlace}
    (h : DataW.trod enc P W 0 sp held fuel t cs = some (.agg (l.map fun s => .lit (.string s.data.toList)), ps)) : RC g0 W (l.map D.str) cs := by
  obtain ⟨h1, h2, fuel', h3⟩ := trod_array1 hu hc ht h
  rw [List.length_map] at h2
  refine RC_of (by rw [List.length_map, h1, h2]) fun i d v hd hv => ?_
  obtain ⟨s, hs', rfl⟩ : ∃ s, l[i]? = some s ∧ D.str s = d := by simpa using hd
  obtain ⟨ps', h4⟩ := h3 i v (.lit (.string s.data.toList)) hv (by simp only [List.getElem?_map, hs', Option.map_some])
  cases fuel' with
  | zero => simp [DataW.trod] at h4
  | succ fuel' =>
    unfold DataW.trod at h4
    rw [hs] at h4
    cases v <;> simp at h4
    rename_i s2
    obtain ⟨_, he, _⟩ := h4
    have : s2 = s := by
      cases s2
      cases s
      simp only at he
      rw [he]
    subst this
    simp only [R]
    exact ⟨rfl, trivial⟩

theorem RC_ints {t e n : Nat} {k : IntKind} (hu : P.underlying t = some (.array n e)) (hs : P.underlying e = some (.int k)) (hc : P.cellsOf e = 1) (ht : P.cellsOf t = n) {fuel : Nat} {cs : List Value} {l : List Int} {ps : List MemPlace}
    (h : DataW.trod enc P W 0 sp held fuel t cs = some (.agg (l.map fun z => .lit (.int k z)), ps)) : RC g0 W (l.map fun z => D.int k z) cs := by
  obtain ⟨h1, h2, fuel', h3⟩ := trod_array1 hu hc ht h
  rw [List.length_map] at h2
  refine RC_of (by rw [List.length_map, h1, h2]) fun i d v hd hv => ?_
  obtain ⟨z, hz, rfl⟩ : ∃ z, l[i]? = some z ∧ D.int k z = d := by simpa using hd
  obtain ⟨ps', h4⟩ := h3 i v (.lit (.int k z)) hv (by simp only [List.getElem?_map, hz, Option.map_some])
  cases fuel' with
  | zero => simp [DataW.trod] at h4
  | succ fuel' =>
    unfold DataW.trod at h4
    rw [hs] at h4
    cases v <;> simp at h4
    obtain ⟨⟨rfl, _⟩, rfl, _⟩ := h4
    simp only [R]
    exact ⟨rfl, trivial⟩

theorem RC_iface {t : Nat} {ms : Array (String × TypeId)} (hu : P.underlying t = some (.interface ms)) {fuel : Nat} {cs : List Value} {name : String} {d : DataW H} {ps : List MemPlace}
    (h : DataW.trod enc P W 0 sp false fuel t cs = some (.iface name d, ps)) : ∃ u, RC g0 W [.iface u .undef] cs := by
  obtain ⟨_, u, v, rfl, _, _⟩ := iface_of_trod hu h
  refine ⟨u, RC_of rfl fun i d v' hd hv => ?_⟩
  cases i with
  | zero =>
    simp only [List.getElem?_cons_zero, Option.some.injEq] at hd hv
    subst hd
    subst hv
    simp only [R]
    exact ⟨rfl, v, rfl, trivial⟩
  | succ i => simp at hd

end

end Go.Hl
