/-
  From a contract over data to the machine's own, for a function that is handed a world.
-/
import Derived.Test.YteffbibilpbhjaaDoorHlP
import Derived.Below
set_option linter.unusedSectionVars false
set_option linter.unusedVariables false
namespace Go.Hl
open Go Go.RowKit

def g0 : G := ⟨fun _ => none, 0⟩
def σ0 : St := ⟨fun _ => none, fun _ => none, 0⟩

theorem rel0 (P : Program) (W : World) : Rel P g0 σ0 W where
  gw := { lt := (fun _ _ h => by cases h), bl := (fun _ _ _ h => by cases h), inj := (fun _ _ _ _ _ h => by cases h), arr := (fun _ _ _ _ _ h => by cases h) }
  next := rfl
  obj := fun _ _ h => by cases h
  glob := fun _ _ h => by cases h

theorem calls_of {P : Program} {f : Nat} {ds : List D} {vs : List Value} {W : World} {Q : D → St → Prop} (hb : hasBody P f = true) (h : HCalls P f ds σ0 Q) (hr : RL g0 W ds vs) :
    Calls P f vs.toArray W fun e W' => ∃ v d g' σ', e = .returned v ∧ Below W.heap.size W W' ∧ R g' W' d v ∧ Q d σ' := by
  have h1 := h g0 W vs (rel0 P W) hr
  rw [callFunc_has hb] at h1
  refine callsIn_wide.1 (CallsIn.mono h1 ?_)
  intro e W' he
  cases e <;> simp only [HRet] at he
  obtain ⟨d, g', σ', hE, hR, hd, hq⟩ := he
  exact ⟨_, d, g', σ', rfl, ⟨hE.out.os, hE.out.tape, hE.out.output, hE.size, fun k hk => hE.still k hk (fun id h ha => by cases ha)⟩, hd, hq⟩

/-- Where nothing is tracked, what stands in memory stands for good. -/
theorem imm0 {W : World} {a : Addr} {v : Value} (h : W.cell? a = some v) : a.spot = none ∧ Imm g0 W a.block a.off v := by
  unfold World.cell? at h
  split at h
  · rename_i c e z hb
    split at h
    · cases h
    · rename_i hs
      refine ⟨by simpa using hs, ⟨c, e, z, hb, h⟩, ?_⟩
      rintro ⟨id, k, hid, _⟩
      cases hid
  · cases h

/-! ### Reading what is handed in -/

theorem opt_mapM {α β : Type} {f : α → Option β} : ∀ {l : List α} {ys : List β}, l.mapM f = some ys → ys.length = l.length ∧ ∀ (i : Nat) x, l[i]? = some x → ∃ y, ys[i]? = some y ∧ f x = some y
  | [], ys, h => by
    simp at h
    subst h
    exact ⟨rfl, fun i x h => by simp at h⟩
  | a :: l, ys, h => by
    rw [List.mapM_cons] at h
    cases ha : f a with
    | none => simp [ha] at h
    | some y =>
      cases hl : l.mapM f with
      | none => simp [ha, hl] at h
      | some zs =>
        simp [ha, hl] at h
        subst h
        obtain ⟨h1, h2⟩ := opt_mapM hl
        refine ⟨by simp [h1], fun i x hx => ?_⟩
        cases i with
        | zero =>
          simp at hx
          subst hx
          exact ⟨y, rfl, ha⟩
        | succ i => simpa using h2 i x (by simpa using hx)

theorem cells_read {W : World} {a : Addr} {n : Nat} {cs : List Value} (h : W.cells? 0 a n = some cs) : cs.length = n ∧ ∀ i, i < n → ∃ v, cs[i]? = some v ∧ W.cell? (a.add i) = some v := by
  unfold World.cells? at h
  rw [if_pos (Nat.zero_le _)] at h
  obtain ⟨h1, h2⟩ := opt_mapM h
  exact ⟨by simpa using h1, fun i hi => h2 i i (by simp [hi])⟩

section
variable {H : Type} {enc : TypeId × Value → H} {P : Program} {W : World} {sp : Nat → Bool} {held : Bool}

theorem trod_int {t : TypeId} {k : IntKind} (hu : P.underlying t = some (.int k)) {fuel : Nat} {v : Value} {d : DataW H} {ps : List MemPlace} (h : DataW.trod enc P W 0 sp held fuel t [v] = some (d, ps)) :
    ∃ n, v = .int k n ∧ (Lit.int k n).wf = true := by
  cases fuel with
  | zero => simp [DataW.trod] at h
  | succ fuel =>
    unfold DataW.trod at h
    rw [hu] at h
    cases v <;> simp at h
    obtain ⟨⟨rfl, h⟩, _⟩ := h
    exact ⟨_, rfl, h⟩

theorem trod_string {t : TypeId} (hu : P.underlying t = some .string) {fuel : Nat} {v : Value} {d : DataW H} {ps : List MemPlace} (h : DataW.trod enc P W 0 sp held fuel t [v] = some (d, ps)) :
    ∃ s, v = .string s ∧ s.size ≤ maxLen := by
  cases fuel with
  | zero => simp [DataW.trod] at h
  | succ fuel =>
    unfold DataW.trod at h
    rw [hu] at h
    cases v <;> simp at h
    exact ⟨_, rfl, h.1⟩

theorem trod_bool {t : TypeId} (hu : P.underlying t = some .bool) {fuel : Nat} {v : Value} {d : DataW H} {ps : List MemPlace} (h : DataW.trod enc P W 0 sp held fuel t [v] = some (d, ps)) :
    ∃ b, v = .bool b := by
  cases fuel with
  | zero => simp [DataW.trod] at h
  | succ fuel =>
    unfold DataW.trod at h
    rw [hu] at h
    cases v <;> simp at h
    exact ⟨_, rfl⟩

theorem trod_slice {t e : TypeId} (hu : P.underlying t = some (.slice e)) {fuel : Nat} {v : Value} {d : DataW H} {ps : List MemPlace} (h : DataW.trod enc P W 0 (fun _ => true) held (fuel + 1) t [v] = some (d, ps)) :
    v = .slice none 0 0 ∨ ∃ a len cap, v = .slice (some a) len cap ∧ len ≤ cap ∧ cap ≤ maxLen ∧
      ∀ i, i < cap → ∃ cs d ps, W.cells? 0 (a.add (i * P.cellsOf e)) (P.cellsOf e) = some cs ∧ DataW.trod enc P W 0 (fun _ => true) held fuel e cs = some (d, ps) := by
  unfold DataW.trod at h
  rw [hu] at h
  cases v
  case slice A len cap =>
    cases A with
    | none =>
      cases len with
      | zero =>
        cases cap with
        | zero => exact .inl rfl
        | succ c => simp at h
      | succ n => simp at h
    | some a =>
      refine .inr ⟨a, len, cap, rfl, ?_⟩
      simp only at h
      split at h; rotate_left; · cases h
      rename_i hc
      refine ⟨hc.2.1, hc.2.2, fun i hi => ?_⟩
      obtain ⟨elems, he, h⟩ := Option.bind_eq_some_iff.1 h
      obtain ⟨rest, hr, _⟩ := Option.map_eq_some_iff.1 h
      rw [if_pos trivial] at hr
      obtain ⟨_, h2⟩ := opt_mapM he
      obtain ⟨_, h3⟩ := opt_mapM hr
      obtain ⟨y, hy⟩ : ∃ y : DataW H × List MemPlace, (W.cells? 0 (a.add (i * P.cellsOf e)) (P.cellsOf e)).bind (DataW.trod enc P W 0 (fun _ => true) held fuel e) = some y := by
        rcases Nat.lt_or_ge i len with hl | hl
        · obtain ⟨y, _, hy⟩ := h2 i i (by simp [hl])
          exact ⟨y, hy⟩
        · obtain ⟨y, _, hy⟩ := h3 (i - len) (i - len) (by rw [List.getElem?_range (by omega)])
          rw [show len + (i - len) = i by omega] at hy
          exact ⟨y, hy⟩
      obtain ⟨cs, hcs, hy⟩ := Option.bind_eq_some_iff.1 hy
      exact ⟨cs, y.1, y.2, hcs, hy⟩
  all_goals simp at h

theorem trod_struct {t : TypeId} {fs : Array Field} (hu : P.underlying t = some (.struct fs)) {fuel : Nat} {cs : List Value} {d : DataW H} {ps : List MemPlace} (h : DataW.trod enc P W 0 sp held (fuel + 1) t cs = some (d, ps)) :
    cs.length = P.cellsOf t ∧ ∀ (i : Nat) f, fs[i]? = some f → ∃ d ps, DataW.trod enc P W 0 sp held fuel f.type ((cs.drop f.offset).take (P.cellsOf f.type)) = some (d, ps) := by
  unfold DataW.trod at h
  rw [hu] at h
  simp only at h
  split at h; rotate_left; · cases h
  rename_i hc
  refine ⟨hc, fun i f hf => ?_⟩
  obtain ⟨xs, hx, _⟩ := Option.map_eq_some_iff.1 h
  obtain ⟨_, h2⟩ := opt_mapM hx
  obtain ⟨y, _, hy⟩ := h2 i f (by simpa using hf)
  exact ⟨y.1, y.2, hy⟩

end

end Go.Hl
