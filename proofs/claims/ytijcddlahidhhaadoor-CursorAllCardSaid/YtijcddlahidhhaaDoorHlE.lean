/-
  How the ghost map grows, and what the operations with an effect do.
-/
import Derived.Test.YtijcddlahidhhaaDoorHlD
import Derived.Deep.AppendSrc
set_option linter.unusedSectionVars false
set_option linter.unusedVariables false
set_option linter.unusedSimpArgs false
namespace Go.Hl
open Go

def G.new (g : G) (h : Gh) : G := { at_ := fun j => if j = g.next then some h else g.at_ j, next := g.next + 1 }
def G.del (g : G) (t : Nat) : G := { g with at_ := fun j => if j = t then none else g.at_ j }
def G.set (g : G) (t : Nat) (h : Gh) : G := { g with at_ := fun j => if j = t then some h else g.at_ j }

theorem G.new_same (g : G) (h : Gh) : (g.new h).at_ g.next = some h := by simp [G.new]
theorem G.new_ne (g : G) (h : Gh) {j : Nat} (hj : j ≠ g.next) : (g.new h).at_ j = g.at_ j := by simp [G.new, hj]
theorem G.set_same (g : G) (t : Nat) (h : Gh) : (g.set t h).at_ t = some h := by simp [G.set]
theorem G.set_ne (g : G) (t : Nat) (h : Gh) {j : Nat} (hj : j ≠ t) : (g.set t h).at_ j = g.at_ j := by simp [G.set, hj]

section
variable {P : Program} {g : G} {σ : St} {w : World}

theorem E.of_heap {w' : World} (hg : GW g w) (hs : w.heap.size ≤ w'.heap.size) (hb : ∀ b, b < w.heap.size → w'.heap[b]? = w.heap[b]?) (ho : OS w w' := by exact ⟨rfl, rfl, rfl⟩) : E g w g w' where
  out := ho
  next := Nat.le_refl _
  size := hs
  old := fun _ h _ k => ⟨h, k, .refl _⟩
  keep := fun _ _ h _ => h
  new := fun id h hle ha => absurd (hg.lt id h ha) (by omega)
  still := fun b hlt _ => hb b hlt
  arr := fun t b f n e0 c e z ht hc => ⟨c, z, by rw [hb b (hg.bl t _ b ht rfl)]; exact hc, rfl, fun _ _ => rfl⟩

theorem GW.of_heap {w' : World} (hg : GW g w) (hs : w.heap.size ≤ w'.heap.size) (hb : ∀ b, b < w.heap.size → w'.heap[b]? = w.heap[b]?) : GW g w' where
  lt := hg.lt
  bl := fun id h b ha hh => Nat.lt_of_lt_of_le (hg.bl id h b ha hh) hs
  inj := hg.inj
  arr := fun t b f n e ha => by rw [hb b (hg.bl t _ b ha rfl)]; exact hg.arr t b f n e ha

theorem E.of_new (hg : GW g w) {h : Gh} {w0 : World} (hw : ∀ b, h.block = some b → w0.heap.size ≤ b) (h0 : E g w0 g w) : E g w0 (g.new h) w where
  out := h0.out
  next := Nat.le_succ_of_le h0.next
  size := h0.size
  old := fun id k hlt ha => by
    rw [G.new_ne g h (by omega)] at ha
    exact ⟨k, ha, .refl _⟩
  keep := fun id k ha hn => by
    have := hg.lt id k ha
    rw [G.new_ne g h (by omega)]
    exact ha
  new := fun id k hle ha b hb => by
    by_cases e : id = g.next
    · subst e
      rw [G.new_same] at ha
      injection ha with ha
      subst ha
      exact hw b hb
    · rw [G.new_ne g h e] at ha
      exact absurd (hg.lt id k ha) (by omega)
  still := h0.still
  arr := h0.arr

theorem GW.of_new (hg : GW g w) {h : Gh} (hlt : ∀ b, h.block = some b → b < w.heap.size) (hf : ∀ id k b, g.at_ id = some k → k.block = some b → h.block ≠ some b)
    (ha : ∀ b f n e, h = .arr b f n e → ∃ c z, w.heap[b]? = some (.cells c e z) ∧ f ≤ c.size ∧ z.2 ≤ f) : GW (g.new h) w where
  lt := fun id k hk => by
    by_cases e : id = g.next
    · subst e
      exact Nat.lt_succ_self _
    · rw [G.new_ne g h e] at hk
      exact Nat.lt_succ_of_lt (hg.lt id k hk)
  bl := fun id k b hk hb => by
    by_cases e : id = g.next
    · subst e
      rw [G.new_same] at hk
      injection hk with hk
      subst hk
      exact hlt b hb
    · rw [G.new_ne g h e] at hk
      exact hg.bl id k b hk hb
  inj := fun i j k k' b hi hj hb hb' => by
    by_cases ei : i = g.next <;> by_cases ej : j = g.next
    · rw [ei, ej]
    · subst ei
      rw [G.new_same] at hi
      rw [G.new_ne g h ej] at hj
      injection hi with hi
      subst hi
      exact absurd hb (hf j k' b hj hb')
    · subst ej
      rw [G.new_same] at hj
      rw [G.new_ne g h ei] at hi
      injection hj with hj
      subst hj
      exact absurd hb' (hf i k b hi hb)
    · rw [G.new_ne g h ei] at hi
      rw [G.new_ne g h ej] at hj
      exact hg.inj i j k k' b hi hj hb hb'
  arr := fun t b f n e0 ht => by
    by_cases e : t = g.next
    · subst e
      rw [G.new_same] at ht
      injection ht with ht
      exact ha b f n e0 ht
    · rw [G.new_ne g h e] at ht
      exact hg.arr t b f n e0 ht

theorem ER.mono {g' : G} {w' : World} (h : E g w g' w') (hg : GW g w) {env : Env} {tmps : Array Value} (he : ER g w env tmps) : ER g' w' env tmps :=
  fun t => R.mono h hg _ _ (he t)

theorem GL.mono {g' : G} {w' : World} (h : E g w g' w') (hg : GW g w) {cs : List D} {k : Nat} (hl : GL g w cs k) : GL g' w' cs k := by
  obtain ⟨⟨c, e, z, hh, hc⟩, hf⟩ := hl
  have hlt := lt_of_heap hh
  refine ⟨⟨c, e, z, by rw [h.still k hlt hf, hh], RC.mono h hg _ _ hc⟩, fun id h' hid hb => ?_⟩
  by_cases hl : id < g.next
  · obtain ⟨h0, k0, m⟩ := h.old id h' hl hid
    exact hf id h0 k0 (m.block hb hlt)
  · have := h.new id h' (by omega) hid k hb
    omega

theorem RO.mono {g' : G} {w' : World} (h : E g w g' w') (hg : GW g w) {id : Nat} {o : Ob} (hk : ∀ k, g.at_ id = some k → g'.at_ id = some k)
    (hb : ∀ k b, g.at_ id = some k → (∀ b f n e, k ≠ .arr b f n e) → k.block = some b → w'.heap[b]? = w.heap[b]?) (ho : RO P g w id o) : RO P g' w' id o := by
  cases o with
  | bx t cs =>
    obtain ⟨b, c, e, ha, hh, hc, ht⟩ := ho
    exact ⟨b, c, e, hk _ ha, (hb _ b ha (by simp) rfl).trans hh, RC.mono h hg _ _ hc, ht⟩
  | tok e n =>
    rcases ho with ⟨b, f, ha, hn⟩ | ⟨ha, hn⟩
    · exact .inl ⟨b, f, hk _ ha, hn⟩
    · exact .inr ⟨hk _ ha, hn⟩
  | tokF e n => exact hk _ ho
  | vec k sz xs =>
    obtain ⟨b, off, cap, c, e, ha, hh, h1, h2, h3, h4⟩ := ho
    exact ⟨b, off, cap, c, e, hk _ ha, (hb _ b ha (by simp) rfl).trans hh, h1, h2, h3, RC.mono h hg _ _ h4⟩
  | loop nt env ps asg body st =>
    obtain ⟨l, r, ha, hh, h1, h2, h3, h4, h5, h6, h7⟩ := ho
    exact ⟨l, r, hk _ ha, (hb _ l ha (by simp) rfl).trans hh, h1, h2, h3, h4, h5.mono h hg, h6, h7⟩

theorem Rel.mono {g' : G} {w' : World} (hrel : Rel P g σ w) (h : E g w g' w') (hg' : GW g' w') (hn : g'.next = g.next)
    (hk : ∀ id k, g.at_ id = some k → g'.at_ id = some k) (hb : ∀ id k b, g.at_ id = some k → (∀ b f n e, k ≠ .arr b f n e) → k.block = some b → w'.heap[b]? = w.heap[b]?) : Rel P g' σ w' where
  gw := hg'
  next := by rw [hrel.next, hn]
  obj := fun id o ho => (hrel.obj id o ho).mono h hrel.gw (hk id) (fun k b => hb id k b)
  glob := fun k cs hc => GL.mono h hrel.gw (hrel.glob k cs hc)

theorem Rel.of_heap {w' : World} (hrel : Rel P g σ w) (hs : w.heap.size ≤ w'.heap.size) (hb : ∀ b, b < w.heap.size → w'.heap[b]? = w.heap[b]?) (ho : OS w w' := by exact ⟨rfl, rfl, rfl⟩) : Rel P g σ w' :=
  hrel.mono (E.of_heap hrel.gw hs hb ho) (hrel.gw.of_heap hs hb) rfl (fun _ _ h => h) (fun id k b ha _ hk => hb _ (hrel.gw.bl id k b ha hk))

theorem heap_oldH (w : World) (o : Obj) (b : Nat) (h : b < w.heap.size) : (w.alloc o).heap[b]? = w.heap[b]? := by first | exact heap_alloc_old w o b h | exact heap_alloc_old w o h

theorem new_block (hrel : Rel P g σ w) (ob : Obj) {h : Gh} {o : Ob} (hb : h.block = some w.heap.size)
    (ha : ∀ b f n e, h = .arr b f n e → ∃ c z, ob = .cells c e z ∧ f ≤ c.size ∧ z.2 ≤ f)
    (ho : E g w (g.new h) (w.alloc ob) → RO P (g.new h) (w.alloc ob) g.next o) :
    E g w (g.new h) (w.alloc ob) ∧ Rel P (g.new h) (σ.new o) (w.alloc ob) := by
  have hs : w.heap.size ≤ (w.alloc ob).heap.size := by rw [World.size_alloc]; omega
  have hold : ∀ b, b < w.heap.size → (w.alloc ob).heap[b]? = w.heap[b]? := fun b hlt => heap_oldH w ob b hlt
  have hE0 := E.of_heap (w' := w.alloc ob) hrel.gw hs hold
  have hg0 := hrel.gw.of_heap (w' := w.alloc ob) hs hold
  have hbb : ∀ b, h.block = some b → b = w.heap.size := fun b e => by rw [hb] at e; injection e with e; exact e.symm
  have hE : E g w (g.new h) (w.alloc ob) := E.of_new hg0 (fun b e => by rw [hbb b e]; exact Nat.le_refl _) hE0
  have hf : ∀ id k b, g.at_ id = some k → k.block = some b → h.block ≠ some b := fun id k b hk hb1 e => by have := hrel.gw.bl id k b hk hb1; have := hbb b e; omega
  have hlt : ∀ b, h.block = some b → b < (w.alloc ob).heap.size := fun b e => by rw [World.size_alloc, hbb b e]; omega
  have hnew : (w.alloc ob).heap[w.heap.size]? = some ob := heap_alloc_new w ob
  have hgw : GW (g.new h) (w.alloc ob) := hg0.of_new hlt hf fun b f n e0 e => by
    obtain ⟨c, z, h1, h2, h3⟩ := ha b f n e0 e
    have : b = w.heap.size := hbb b (by rw [e]; rfl)
    exact ⟨c, z, by rw [this, hnew, h1], h2, h3⟩
  refine ⟨hE, hgw, by simp [St.new, G.new, hrel.next], fun id o' hid => ?_, fun k cs hc => GL.mono hE hrel.gw (hrel.glob k cs hc)⟩
  by_cases e : id = g.next
  · subst e
    rw [← hrel.next, St.new_same] at hid
    injection hid with hid
    subst hid
    exact ho hE
  · rw [St.new_ne σ o (by rw [hrel.next]; exact e)] at hid
    exact (hrel.obj id o' hid).mono hE hrel.gw (fun k hk => by rw [G.new_ne g h e]; exact hk) (fun k b hk _ hb1 => hold _ (hrel.gw.bl id k b hk hb1))

theorem upd_step {t : Nat} {h h' : Gh} {o' : Ob} {w' : World} (hrel : Rel P g σ w) (ht : g.at_ t = some h) (hm : Mv w.heap.size h h') (hfix : h.fixed = true → h' = h)
    (hs : w.heap.size ≤ w'.heap.size) (hoth : ∀ k, k < w.heap.size → h.block ≠ some k → w'.heap[k]? = w.heap[k]?) (hos : OS w w')
    (harr : ∀ b f n e0 c e z, h = .arr b f n e0 → w.heap[b]? = some (.cells c e z) → ∃ c' z', w'.heap[b]? = some (.cells c' e z') ∧ c'.size = c.size ∧ ∀ o, o < f → c'[o]? = c[o]?)
    (hlt : ∀ b, h'.block = some b → b < w'.heap.size)
    (harr' : ∀ b f n e, h' = .arr b f n e → ∃ c z, w'.heap[b]? = some (.cells c e z) ∧ f ≤ c.size ∧ z.2 ≤ f)
    (hro : E g w (g.set t h') w' → RO P (g.set t h') w' t o') : E g w (g.set t h') w' ∧ Rel P (g.set t h') (σ.put t o') w' := by
  have hE : E g w (g.set t h') w' := {
    out := hos
    next := Nat.le_refl _
    size := hs
    old := fun id k hl hk => by
      by_cases e : id = t
      · subst e
        rw [G.set_same] at hk
        injection hk with hk
        subst hk
        exact ⟨h, ht, hm⟩
      · rw [G.set_ne _ _ _ e] at hk
        exact ⟨k, hk, .refl _⟩
    keep := fun id k hk hf => by
      by_cases e : id = t
      · subst e
        rw [ht] at hk
        injection hk with hk
        subst hk
        rw [G.set_same, hfix hf]
      · rw [G.set_ne _ _ _ e]
        exact hk
    new := fun id k hle hk => by
      by_cases e : id = t
      · subst e
        exact absurd (hrel.gw.lt id h ht) (by omega)
      · rw [G.set_ne _ _ _ e] at hk
        exact absurd (hrel.gw.lt id k hk) (by omega)
    still := fun b hb hu => hoth b hb (hu t h ht)
    arr := fun t' b f n e1 c e z ht' hc => by
      by_cases e0 : t' = t
      · subst e0
        rw [ht] at ht'
        injection ht' with ht'
        exact harr b f n e1 c e z ht' hc
      · refine ⟨c, z, ?_, rfl, fun _ _ => rfl⟩
        rw [hoth b (hrel.gw.bl t' _ b ht' rfl) (fun hb => e0 (hrel.gw.inj t' t _ _ b ht' ht rfl hb))]
        exact hc }
  have hgw : GW (g.set t h') w' := {
    lt := fun id k hk => by
      by_cases e : id = t
      · subst e
        exact hrel.gw.lt id h ht
      · rw [G.set_ne _ _ _ e] at hk
        exact hrel.gw.lt id k hk
    bl := fun id k b hk hb => by
      by_cases e : id = t
      · subst e
        rw [G.set_same] at hk
        injection hk with hk
        subst hk
        exact hlt b hb
      · rw [G.set_ne _ _ _ e] at hk
        exact Nat.lt_of_lt_of_le (hrel.gw.bl id k b hk hb) hs
    inj := fun i j k k' b hi hj hb hb' => by
      by_cases ei : i = t <;> by_cases ej : j = t
      · rw [ei, ej]
      · subst ei
        rw [G.set_same] at hi
        rw [G.set_ne _ _ _ ej] at hj
        injection hi with hi
        subst hi
        exact hrel.gw.inj i j _ _ b ht hj (hm.block hb (hrel.gw.bl j k' b hj hb')) hb'
      · subst ej
        rw [G.set_same] at hj
        rw [G.set_ne _ _ _ ei] at hi
        injection hj with hj
        subst hj
        exact hrel.gw.inj i j _ _ b hi ht hb (hm.block hb' (hrel.gw.bl i k b hi hb))
      · rw [G.set_ne _ _ _ ei] at hi
        rw [G.set_ne _ _ _ ej] at hj
        exact hrel.gw.inj i j k k' b hi hj hb hb'
    arr := fun t' b f n e1 ht' => by
      by_cases e : t' = t
      · subst e
        rw [G.set_same] at ht'
        injection ht' with ht'
        exact harr' b f n e1 ht'
      · rw [G.set_ne _ _ _ e] at ht'
        rw [hoth b (hrel.gw.bl t' _ b ht' rfl) (fun hb => e (hrel.gw.inj t' t _ _ b ht' ht rfl hb))]
        exact hrel.gw.arr t' b f n e1 ht' }
  refine ⟨hE, hgw, hrel.next, fun id o ho => ?_, fun k cs hc => GL.mono hE hrel.gw (hrel.glob k cs hc)⟩
  by_cases e : id = t
  · subst e
    rw [St.put_same] at ho
    injection ho with ho
    subst ho
    exact hro hE
  · rw [St.put_ne σ _ e] at ho
    exact (hrel.obj id o ho).mono hE hrel.gw (fun k hk => by rw [G.set_ne _ _ _ e]; exact hk)
      (fun k b hk _ hb => hoth b (hrel.gw.bl id k b hk hb) (fun hb' => e (hrel.gw.inj id t _ _ b hk ht hb hb')))

theorem R_one : ∀ {d : D} {v : Value}, R g w d v → cellsD d = some [d] → v.oneCell' = true
  | .undef, v, h, hc => by simp [cellsD] at hc
  | .dead, v, h, hc => by simp [cellsD] at hc
  | .bool b, v, h, hc => by simp only [R] at h; subst h; rfl
  | .int k n, v, h, hc => by simp only [R] at h; subst h; rfl
  | .str s, v, h, hc => by simp only [R] at h; subst h; rfl
  | .nilp, v, h, hc => by simp only [R] at h; subst h; rfl
  | .ptr id off, v, h, hc => by simp only [R] at h; obtain ⟨_, _, rfl⟩ := h; rfl
  | .eptr cs off, v, h, hc => by simp only [R] at h; obtain ⟨_, _, rfl, _⟩ := h; rfl
  | .slice o sz xs, v, h, hc => by simp only [R] at h; obtain ⟨_, _, rfl, _⟩ := h; rfl
  | .func f caps, v, h, hc => by simp only [R] at h; obtain ⟨_, rfl, _⟩ := h; rfl
  | .yld id, v, h, hc => by simp only [R] at h; obtain ⟨_, _, rfl⟩ := h; rfl
  | .nilf, v, h, hc => by simp only [R] at h; subst h; rfl
  | .iface t d, v, h, hc => by simp only [R] at h; obtain ⟨_, rfl, _⟩ := h; rfl
  | .nili, v, h, hc => by simp only [R] at h; subst h; rfl
  | .agg cs, v, h, hc => by
    simp only [cellsD, Option.some.injEq] at hc
    have : SizeOf.sizeOf cs = SizeOf.sizeOf [D.agg cs] := congrArg SizeOf.sizeOf hc
    simp at this
    omega
  | .tuple ds, v, h, hc => by simp [cellsD] at hc
  | .vec id k, v, h, hc => by simp only [R] at h; obtain ⟨_, ⟨_, _, _, rfl⟩, _⟩ := h; rfl
  | .vptr id k sz i o, v, h, hc => by simp only [R] at h; obtain ⟨_, ⟨_, _, rfl⟩, _⟩ := h; rfl
  | .sptr t xs, v, h, hc => by simp only [R] at h; obtain ⟨_, ⟨_, rfl, _⟩, _⟩ := h; rfl

theorem cells_RC {d : D} {v : Value} {cs : List D} (h : R g w d v) (hc : cellsD d = some cs) : RC g w cs v.cells.toList := by
  by_cases hag : ∃ es, d = .agg es
  · obtain ⟨es, rfl⟩ := hag
    simp only [cellsD, Option.some.injEq] at hc
    subst hc
    simp only [R] at h
    obtain ⟨vs, rfl, hl⟩ := h
    exact hl
  · have hd : cs = [d] ∧ cellsD d = some [d] := by
      cases d <;> simp_all [cellsD]
    obtain ⟨rfl, hd⟩ := hd
    have h1 := R_one h hd
    have hv : v.cells = #[v] := by cases v <;> first | rfl | (simp [Value.oneCell'] at h1)
    rw [hv]
    simp only [RC]
    exact ⟨v, [], rfl, ⟨h1, h⟩, rfl⟩

theorem run_newVar (t : TypeId) (v : Value) : (newVar t v).run P w = .ok ⟨w.heap.size, 0, none⟩ (w.alloc (.cells v.cells t)) := by
  simp [newVar, newRow]

theorem new_var (hrel : Rel P g σ w) (t : TypeId) {v : Value} {cs : List D} (hc : RC g w cs v.cells.toList) (ot : Option Nat := none) (hot : ∀ t', ot = some t' → t = t' := by intro _ h; cases h) :
    E g w (g.new (.box w.heap.size)) (w.alloc (.cells v.cells t)) ∧ Rel P (g.new (.box w.heap.size)) (σ.new (.bx ot cs)) (w.alloc (.cells v.cells t)) ∧
      R (g.new (.box w.heap.size)) (w.alloc (.cells v.cells t)) (.ptr σ.next 0) (.pointer (some ⟨w.heap.size, 0, none⟩)) := by
  have h := new_block (h := .box w.heap.size) (o := .bx ot cs) hrel (.cells v.cells t) rfl (fun b f n e0 e => by cases e) (fun hE =>
    ⟨w.heap.size, v.cells, t, G.new_same _ _, heap_alloc_new w _, RC.mono hE hrel.gw _ _ hc, hot⟩)
  refine ⟨h.1, h.2, ?_⟩
  simp only [R]
  exact ⟨_, by rw [hrel.next, G.new_same], rfl⟩

theorem setCells_heap (b : Nat) : ∀ (vs : List Value) (o : Nat) (w : World) (c : Array Value) (e : TypeId) (z : Nat × Nat), w.heap[b]? = some (.cells c e z) → o + vs.length ≤ c.size →
    ∃ c', (w.setCells b o vs).heap[b]? = some (.cells c' e z) ∧ c'.size = c.size ∧ (∀ i, i < o → c'[i]? = c[i]?) ∧ (∀ (j : Nat) u, vs[j]? = some u → c'[o + j]? = some u) ∧ (∀ i, o + vs.length ≤ i → c'[i]? = c[i]?)
  | [], o, w, c, e, z, h, _ => ⟨c, h, rfl, fun _ _ => rfl, fun j u hu => by simp at hu, fun _ _ => rfl⟩
  | v :: vs, o, w, c, e, z, h, hl => by
    simp only [List.length_cons] at hl
    have h1 : (w.setCell ⟨b, o, none⟩ v).heap[b]? = some (.cells (c.setIfInBounds o v) e z) := by
      simp [World.setCell, Array.getElem?_modify, h]
    obtain ⟨c', h2, h3, h4, h5, h6⟩ := setCells_heap b vs (o + 1) (w.setCell ⟨b, o, none⟩ v) (c.setIfInBounds o v) e z h1 (by simp; omega)
    refine ⟨c', h2, by simpa using h3, fun i hi => ?_, fun j u hu => ?_, fun i hi => ?_⟩
    · rw [h4 i (by omega), Array.getElem?_setIfInBounds_ne (by omega)]
    · cases j with
      | zero =>
        simp at hu
        subst hu
        rw [Nat.add_zero, h4 o (by omega)]
        simp [Array.getElem?_setIfInBounds]; omega
      | succ j =>
        simp at hu
        have := h5 j u hu
        rwa [show o + 1 + j = o + (j + 1) by omega] at this
    · simp only [List.length_cons] at hi
      rw [h6 i (by omega), Array.getElem?_setIfInBounds_ne (by omega)]

theorem setCells_other (b : Nat) : ∀ (vs : List Value) (o : Nat) (w : World) (k : Nat), k ≠ b → (w.setCells b o vs).heap[k]? = w.heap[k]?
  | [], o, w, k, _ => rfl
  | v :: vs, o, w, k, hk => by
    show ((w.setCell ⟨b, o, none⟩ v).setCells b (o + 1) vs).heap[k]? = _
    rw [setCells_other b vs (o + 1) _ k hk]
    simp [World.setCell, Array.getElem?_modify, Ne.symm hk]

theorem setCells_os (b : Nat) : ∀ (vs : List Value) (o : Nat) (w : World), OS w (w.setCells b o vs)
  | [], o, w => ⟨rfl, rfl, rfl⟩
  | v :: vs, o, w => OS.trans (b := w.setCell ⟨b, o, none⟩ v) ⟨rfl, rfl, rfl⟩ (setCells_os b vs (o + 1) _)

theorem setCells_size (b : Nat) : ∀ (vs : List Value) (o : Nat) (w : World), (w.setCells b o vs).heap.size = w.heap.size
  | [], o, w => rfl
  | v :: vs, o, w => by
    show ((w.setCell ⟨b, o, none⟩ v).setCells b (o + 1) vs).heap.size = _
    rw [setCells_size b vs (o + 1)]
    simp [World.setCell]

theorem wrD_get {cs vs : List D} {off : Nat} (h : off + vs.length ≤ cs.length) (i : Nat) :
    (wrD cs off vs)[i]? = if off ≤ i ∧ i < off + vs.length then vs[i - off]? else cs[i]? := by
  unfold wrD
  split
  · rename_i hh
    obtain ⟨rfl, hl⟩ := hh
    split
    · simp
    · rename_i hn
      have : vs.length ≤ i := by omega
      rw [List.getElem?_eq_none this, List.getElem?_eq_none (by omega)]
  · rw [List.append_assoc, List.getElem?_append]
    have hto : (cs.take off).length = off := by simp; omega
    rw [hto]
    split
    · rw [List.getElem?_take, if_pos (by omega), if_neg (by omega)]
    · rw [List.getElem?_append]
      split
      · rw [if_pos (by omega)]
      · rw [List.getElem?_drop, if_neg (by omega)]
        congr 1
        omega

theorem wrD_length {cs vs : List D} {off : Nat} (h : off + vs.length ≤ cs.length) : (wrD cs off vs).length = cs.length := by
  unfold wrD
  split
  · omega
  · simp; omega

theorem store_run {t : TypeId} {sz : Nat} {x y : D} {u v : Value} {d : D} {σ' : St} {p : Prop} (hnv : ∀ id k sz1 i off, x ≠ .vptr id k sz1 i off) (hrel : Rel P g σ w) (ht : tyCells P t = some sz) (hx : R g w x u) (hy : R g w y v)
    (hs : storeD σ sz x y = some (d, σ', p)) (hp : p) : ∃ w', (Instr.storeAt t u v).run P w = .ok () w' ∧ E g w g w' ∧ Rel P g σ' w' := by
  unfold storeD at hs
  split at hs; rotate_left
  · exact absurd rfl (hnv _ _ _ _ _)
  · cases hs
  rename_i id off
  split at hs; rotate_left; · cases hs
  rename_i ot cs hcs
  split at hs; rotate_left; · cases hs
  rename_i vs hvs
  simp only [Option.some.injEq, Prod.mk.injEq] at hs
  obtain ⟨rfl, rfl, rfl⟩ := hs
  obtain ⟨hl, hb⟩ := hp
  simp only [R] at hx
  obtain ⟨b, hid, rfl⟩ := hx
  obtain ⟨b', c, e, hid', hh, hc, hot⟩ := hrel.obj id _ hcs
  rw [hid] at hid'
  injection hid' with hid'
  injection hid' with hid'
  subst hid'
  have hv := cells_RC hy hvs
  have hvl := hv.length
  have hcl := hc.length
  have hroom : off + v.cells.toList.length ≤ c.size := by simp at hvl hcl ⊢; omega
  obtain ⟨c', h1, h2, h3, h4, h5⟩ := setCells_heap b v.cells.toList off w c e (0, 0) hh hroom
  have hone : ∀ x ∈ v.cells.toList, x.oneCell' = true := fun x hx => by
    obtain ⟨i, hi, rfl⟩ := List.getElem_of_mem hx
    have hil : i < vs.length := by omega
    obtain ⟨u, hu, ho, _⟩ := hv.get (List.getElem?_eq_getElem hil)
    rw [List.getElem?_eq_getElem hi] at hu
    injection hu with hu
    rwa [hu]
  have hrun := run_storeCells_cells (P := P) b off v.cells.toList 0 w (fun j hj => by
      have : off + j < c.size := by omega
      simp [World.cell?, hh, this]) (fun j hj => by simp [World.frozen?, hh]) hone
  have hblk : ∀ k, k ≠ b → (w.setCells b off v.cells.toList).heap[k]? = w.heap[k]? := fun k hk => setCells_other b _ off w k hk
  have hgset : g.set id (.box b) = g := by
    unfold G.set
    congr 1
    funext j
    split
    · rename_i e; rw [e, hid]
    · rfl
  obtain ⟨hE, hR⟩ := upd_step (w' := w.setCells b off v.cells.toList) (o' := .bx ot (wrD cs off vs)) hrel hid (.refl _) (fun _ => rfl) (by rw [setCells_size]; exact Nat.le_refl _)
    (fun k _ hk => hblk k (fun e => hk (by rw [e]; rfl))) (setCells_os b _ off w) (fun _ _ _ _ _ _ _ e => by cases e) (fun b' e => by
      simp only [Gh.block, Option.some.injEq] at e
      rw [← e, setCells_size]; exact hrel.gw.bl id _ b hid rfl) (fun _ _ _ _ e => by cases e) (fun hE => by
      rw [hgset] at hE ⊢
      refine ⟨b, c', e, hid, h1, RC.of_get (by rw [wrD_length (by omega)]; simp at hcl ⊢; omega) fun i d u hd hu => ?_, hot⟩
      rw [wrD_get (by omega)] at hd
      have hu' : c'[i]? = some u := by simpa using hu
      split at hd
      · rename_i hin
        obtain ⟨u2, hu2, ho, hr⟩ := hv.get hd
        have := h4 (i - off) u2 hu2
        rw [show off + (i - off) = i by omega, hu'] at this
        injection this with this
        subst this
        exact ⟨ho, R.mono hE hrel.gw _ _ hr⟩
      · rename_i hout
        obtain ⟨u2, hu2, ho, hr⟩ := hc.get hd
        have hu2' : c[i]? = some u2 := by simpa using hu2
        have hceq : c'[i]? = c[i]? := by
          rcases Nat.lt_or_ge i off with hlt | hge
          · exact h3 i hlt
          · exact h5 i (by omega)
        rw [hceq, hu2'] at hu'
        injection hu' with hu'
        subst hu'
        exact ⟨ho, R.mono hE hrel.gw _ _ hr⟩)
  rw [hgset] at hE hR
  refine ⟨w.setCells b off v.cells.toList, ?_, hE, hR⟩
  have hsz : ¬ v.cells.size ≠ sz := by simp at hvl; omega
  simp only [Nat.add_zero] at hrun
  simp only [Instr.storeAt, Instr.sureAddr, Sem.run_bind, Sem.run_pure, Result.andThen_ok, storeVar, run_sizeOf' ht, if_neg hsz, Nat.add_zero, hrun]

theorem RX.flat {sz : Nat} : ∀ {xs : List (List D)} {b o : Nat}, RX g w sz xs b o →
    (∀ x ∈ xs, x.length = sz) ∧ ∃ news, RC g w xs.flatten news ∧ ∀ (j : Nat) u, news[j]? = some u → Imm g w b (o + j) u
  | [], b, o, _ => ⟨(fun _ h => by cases h), [], (by simp [RC]), fun j u hu => by simp at hu⟩
  | x :: xs, b, o, h => by
    simp only [RX] at h
    obtain ⟨h1, h2, h3⟩ := h
    obtain ⟨h4, news, h5, h6⟩ := RX.flat h3
    refine ⟨fun y hy => by
      rcases List.mem_cons.1 hy with rfl | hy
      · exact h1
      · exact h4 y hy, ?_⟩
    have key : ∀ (ds : List D) (o : Nat), RM g w ds b o → ∃ us, RC g w ds us ∧ ∀ (j : Nat) u, us[j]? = some u → Imm g w b (o + j) u := by
      intro ds
      induction ds with
      | nil => exact fun o _ => ⟨[], by simp [RC], fun j u hu => by simp at hu⟩
      | cons d ds ih =>
        intro o hm
        simp only [RM] at hm
        obtain ⟨⟨u, hi, ho, hr⟩, hm⟩ := hm
        obtain ⟨us, hc, hi'⟩ := ih (o + 1) hm
        refine ⟨u :: us, by simp only [RC]; exact ⟨u, us, rfl, ⟨ho, hr⟩, hc⟩, fun j v hv => ?_⟩
        cases j with
        | zero => simp at hv; subst hv; exact hi
        | succ j =>
          simp at hv
          have := hi' j v hv
          rwa [show o + 1 + j = o + (j + 1) by omega] at this
    obtain ⟨us, hc, hi⟩ := key x o h2
    have hlen := hc.length
    refine ⟨us ++ news, ?_, fun j u hu => ?_⟩
    · rw [List.flatten_cons]
      refine RC.of_get (by simp [hlen, h5.length]) fun i d u hd hu => ?_
      rw [List.getElem?_append] at hd hu
      rw [hlen] at hu
      split at hd
      · rename_i hlt
        rw [if_pos hlt] at hu
        obtain ⟨u', hu', ho, hr⟩ := hc.get hd
        rw [hu] at hu'
        injection hu' with hu'
        subst hu'
        exact ⟨ho, hr⟩
      · rename_i hlt
        rw [if_neg hlt] at hu
        obtain ⟨u', hu', ho, hr⟩ := h5.get hd
        rw [hu] at hu'
        injection hu' with hu'
        subst hu'
        exact ⟨ho, hr⟩
    · rw [List.getElem?_append] at hu
      split at hu
      · exact hi j u hu
      · have := h6 _ u hu
        rwa [hlen, h1, show o + sz + (j - sz) = o + j by omega] at this

theorem flatten_length {sz : Nat} : ∀ {xs : List (List D)}, (∀ x ∈ xs, x.length = sz) → xs.flatten.length = xs.length * sz
  | [], _ => by simp
  | x :: xs, h => by
    rw [List.flatten_cons, List.length_append, h x (by simp), flatten_length (fun y hy => h y (by simp [hy])), List.length_cons, Nat.add_mul]
    omega

theorem RX.of_flat {sz : Nat} : ∀ {xs : List (List D)} {b o : Nat} {news : List Value}, (∀ x ∈ xs, x.length = sz) → RC g w xs.flatten news → (∀ (j : Nat) u, news[j]? = some u → Imm g w b (o + j) u) → RX g w sz xs b o
  | [], b, o, news, _, _, _ => by simp only [RX]
  | x :: xs, b, o, news, hl, hc, hi => by
    simp only [RX]
    have h1 := hl x (by simp)
    have hlen := hc.length
    rw [List.flatten_cons] at hc hlen
    refine ⟨h1, RM.of_get fun i d hd => ?_, RX.of_flat (news := news.drop sz) (fun y hy => hl y (by simp [hy])) ?_ fun j u hu => ?_⟩
    · have hlt : i < x.length := by
        rcases Nat.lt_or_ge i x.length with h | h
        · exact h
        · rw [List.getElem?_eq_none h] at hd; cases hd
      obtain ⟨u, hu, ho, hr⟩ := hc.get (i := i) (d := d) (by rw [List.getElem?_append, if_pos hlt]; exact hd)
      exact ⟨u, hi i u hu, ho, hr⟩
    · refine RC.of_get (by simp at hlen ⊢; omega) fun i d u hd hu => ?_
      rw [List.getElem?_drop] at hu
      obtain ⟨u', hu', ho, hr⟩ := hc.get (i := sz + i) (d := d) (by rw [List.getElem?_append, if_neg (by omega)]; rw [show sz + i - x.length = i by omega]; exact hd)
      rw [hu] at hu'
      injection hu' with hu'
      subst hu'
      exact ⟨ho, hr⟩
    · rw [List.getElem?_drop] at hu
      have := hi _ u hu
      rwa [show o + (sz + j) = o + sz + j by omega] at this

theorem RX.append {sz : Nat} : ∀ {xs ys : List (List D)} {b o : Nat}, RX g w sz xs b o → RX g w sz ys b (o + xs.length * sz) → RX g w sz (xs ++ ys) b o
  | [], ys, b, o, _, h => by simpa using h
  | x :: xs, ys, b, o, h, h' => by
    simp only [List.cons_append, RX] at h ⊢
    refine ⟨h.1, h.2.1, RX.append h.2.2 ?_⟩
    rw [List.length_cons, Nat.add_mul] at h'
    rwa [show o + sz + xs.length * sz = o + (xs.length * sz + 1 * sz) by omega]

theorem RC.one {cs : List D} {vs : List Value} (h : RC g w cs vs) : ∀ u ∈ vs, u.oneCell' = true := fun u hu => by
  obtain ⟨i, hi, rfl⟩ := List.getElem_of_mem hu
  have := h.length
  obtain ⟨x, hx, ho, _⟩ := h.get (List.getElem?_eq_getElem (by omega : i < cs.length))
  rw [List.getElem?_eq_getElem hi] at hx
  injection hx with hx
  rwa [hx]

theorem src_run {tx : TypeId} {sz : Nat} {y : D} {v : Value} {ys : List (List D)} (hk : (isSliceTy P tx || isStr P tx) = true) (hy : R g w y v) (hs : srcD y = some (sz, ys)) :
    ∃ news, Src P sz tx v ys.length news w ∧ RC g w ys.flatten news ∧ ∀ x ∈ ys, x.length = sz := by
  have hkind : (∃ e', P.underlying tx = some (.slice e')) ∨ P.underlying tx = some .string := by
    simp only [Bool.or_eq_true] at hk
    exact hk.imp isSliceTy_spec isStr_spec
  unfold srcD at hs
  split at hs
  · rename_i o sz' ys'
    simp only [Option.some.injEq, Prod.mk.injEq] at hs
    obtain ⟨rfl, rfl⟩ := hs
    simp only [R] at hy
    obtain ⟨A, cap, rfl, hl, hsl, _, hX⟩ := hy
    cases A with
    | none =>
      simp only [SliceAt] at hsl
      have : ys' = [] := List.eq_nil_of_length_eq_zero hsl.1
      subst this
      exact ⟨[], ⟨hkind, fun _ => rfl, run_firstCells_none w sz' 0 0 cap, run_firstCells_none w.drew sz' 0 0 cap, by simp, fun _ h => by cases h⟩, by simp [RC], fun _ h => by cases h⟩
    | some ad =>
      by_cases h0 : ys' = []
      · subst h0
        exact ⟨[], ⟨hkind, fun _ => rfl, run_firstCells_some w sz' 0 ad 0 cap [] (by simp) (fun j u hu => by simp at hu), run_firstCells_some w.drew sz' 0 ad 0 cap [] (by simp) (fun j u hu => by simp at hu), by simp, fun _ h => by cases h⟩, by simp [RC], fun _ h => by cases h⟩
      obtain ⟨b, off, sp⟩ := ad
      have hsl := hsl.spot hl (List.length_pos_iff.2 h0)
      simp only at hsl
      subst hsl
      obtain ⟨h1, news, h2, h3⟩ := (hX b off rfl).flat
      have hnl : news.length = ys'.length * sz' := by rw [h2.length, flatten_length h1]
      have hc : ∀ (j : Nat) u, news[j]? = some u → w.cell? ((⟨b, off, none⟩ : Addr).add j) = some u := fun j u hu => by
        rw [Addr.add_lit]; exact (h3 j u hu).cell
      exact ⟨news, ⟨hkind, fun _ => rfl, run_firstCells_some w sz' ys'.length _ ys'.length cap news hnl hc, run_firstCells_some w.drew sz' ys'.length _ ys'.length cap news hnl (by simpa using hc), hnl, h2.one⟩, h2, h1⟩
  · rename_i s
    simp only [Option.some.injEq, Prod.mk.injEq] at hs
    obtain ⟨rfl, rfl⟩ := hs
    simp only [R] at hy
    subst hy
    have hlen : (s.data.toList.map fun b => [D.int IntKind.u8 (b.toNat : Int)]).length = s.size := by
      rw [List.length_map, Array.length_toList]; rfl
    refine ⟨byteCells s, ⟨hkind, fun _ => by rw [hlen]; rfl, by rw [hlen]; exact firstCells_string s w, by rw [hlen]; exact firstCells_string s w.drew, by rw [byteCells_length, hlen, Nat.mul_one], ?_⟩, ?_, ?_⟩
    · intro u hu
      obtain ⟨_, _, rfl⟩ := List.mem_map.1 hu
      rfl
    · unfold byteCells
      generalize s.data.toList = l
      induction l with
      | nil => simp [RC]
      | cons c l ih =>
        simp only [List.map_cons, List.flatten_cons, List.singleton_append, RC]
        exact ⟨_, _, rfl, ⟨rfl, by simp only [R]⟩, ih⟩
    · intro x hx
      obtain ⟨_, _, rfl⟩ := List.mem_map.1 hx
      rfl
  · cases hs

theorem run_append_room_none (t tx ty e : TypeId) (i : TypeInfo) (ht : P.underlying t = some (.slice e)) (hi : P.info? e = some i) (x : Value) (hs : Src P i.size tx x 0 [] w) :
    (Builtin.append_ #[t, tx] ty #[.slice none 0 0, x]).run P w = .ok (.slice none 0 0) w := by
  rcases hs.kind with ⟨e', hk⟩ | hk <;> simp [Builtin.append_, run_underlying ht, run_underlying hk, sizeOf, typeInfo, hi, hs.len, hs.cells]

theorem cmpAppend_spec {t sz bytes : Nat} (h : cmpAppend P t sz bytes = true) : ∃ e i z, P.underlying t = some (.slice e) ∧ P.info? e = some i ∧ i.size = sz ∧ i.bytes = bytes ∧ 0 < sz ∧ i.zero = some z ∧ z.cells.size = sz := by
  unfold cmpAppend at h
  split at h; rotate_left; · cases h
  rename_i e hu
  simp only [Bool.and_eq_true, beq_iff_eq, decide_eq_true_eq] at h
  obtain ⟨⟨⟨h1, h2⟩, h3⟩, h4⟩ := h
  unfold tyCells at h1
  unfold tyBytes at h2
  cases hi : P.info? e with
  | none => simp [hi] at h1
  | some i =>
    simp only [hi, Option.map_some, Option.some.injEq, Option.bind_some] at h1 h2 h4
    cases hz : i.zero with
    | none => simp [hz] at h4
    | some z =>
      simp only [hz, beq_iff_eq] at h4
      exact ⟨e, i, z, hu, hi, h1, h2, h3, hz, h4⟩

theorem grow_cells {e : TypeId} {sz n cap : Nat} {xs ys : List (List D)} {olds news rest : List Value} (hgw : GW g w)
    (hxl : ∀ x ∈ xs, x.length = sz) (hyl : ∀ x ∈ ys, x.length = sz) (hx : RC g w xs.flatten olds) (hy : RC g w ys.flatten news)
    (hn : n = xs.length + ys.length) (hcap : n ≤ cap) (hrest : rest.length = (cap - n) * sz) {g' : G} {w1 : World} (hw1 : w1 = w.drew.alloc (.cells ((olds ++ news).toArray ++ rest.toArray) e))
    (hE : E g w g' w1) (hmut : ∀ o, o < n * sz → ¬ Mut g' w.heap.size o) :
      (((olds ++ news).toArray ++ rest.toArray).size = cap * sz) ∧ w1.heap[w.heap.size]? = some (.cells ((olds ++ news).toArray ++ rest.toArray) e) ∧ RX g' w1 sz (xs ++ ys) w.heap.size 0 := by
  subst hw1
  have hlen : (olds ++ news).length = n * sz := by
    rw [List.length_append, hx.length, hy.length, flatten_length hxl, flatten_length hyl, hn, Nat.add_mul]
  have hcs : ((olds ++ news).toArray ++ rest.toArray).size = cap * sz := by
    simp only [Array.size_append, List.size_toArray]
    rw [hlen, hrest, ← Nat.add_mul]
    congr 1
    omega
  have hnew : (w.drew.alloc (.cells ((olds ++ news).toArray ++ rest.toArray) e)).heap[w.heap.size]? = some (.cells ((olds ++ news).toArray ++ rest.toArray) e) := heap_alloc_new w.drew _
  refine ⟨hcs, hnew, RX.of_flat (news := olds ++ news) (fun x hx' => ?_) ?_ fun j u hu => ?_⟩
  · rcases List.mem_append.1 hx' with h | h
    · exact hxl x h
    · exact hyl x h
  · rw [List.flatten_append]
    have h1 := RC.mono hE hgw _ _ hx
    have h2 := RC.mono hE hgw _ _ hy
    refine RC.of_get (by simp [h1.length, h2.length]) fun i d u hd hu => ?_
    rw [List.getElem?_append] at hd hu
    rw [h1.length] at hu
    split at hd
    · rename_i hlt
      rw [if_pos hlt] at hu
      obtain ⟨u', hu', ho, hr⟩ := h1.get hd
      rw [hu] at hu'
      injection hu' with hu'
      subst hu'
      exact ⟨ho, hr⟩
    · rename_i hlt
      rw [if_neg hlt] at hu
      obtain ⟨u', hu', ho, hr⟩ := h2.get hd
      rw [hu] at hu'
      injection hu' with hu'
      subst hu'
      exact ⟨ho, hr⟩
  · have hj : j < n * sz := by
      rcases Nat.lt_or_ge j (olds ++ news).length with h | h
      · omega
      · rw [List.getElem?_eq_none h] at hu; cases hu
    refine ⟨⟨_, e, (0, 0), hnew, ?_⟩, by rw [Nat.zero_add]; exact hmut j hj⟩
    rw [Nat.zero_add, Array.getElem?_append_left (by simp only [List.size_toArray]; omega)]
    simpa using hu

end
end Go.Hl
