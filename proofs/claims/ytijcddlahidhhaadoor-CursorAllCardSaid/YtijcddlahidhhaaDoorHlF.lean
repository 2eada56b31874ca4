/-
  Every operation of the small syntax but a call, on the machine.
-/
import Derived.Test.YtijcddlahidhhaaDoorHlE
set_option linter.unusedSectionVars false
set_option linter.unusedVariables false
set_option linter.unusedSimpArgs false
namespace Go.Hl
open Go

section
variable {P : Program} {g : G} {σ : St} {w : World}

theorem R_no {o : Own} {sz : Nat} {xs : List (List D)} {v : Value} (h : R g w (.slice o sz xs) v) : R g w (.slice .no sz xs) v := by
  simp only [R] at h ⊢
  obtain ⟨A, cap, h1, h2, h3, _, h4⟩ := h
  exact ⟨A, cap, h1, h2, h3, trivial, h4⟩

theorem slice_flat {o : Own} {sz : Nat} {xs : List (List D)} {v : Value} (h : R g w (.slice o sz xs) v) :
    ∃ A cap olds, v = .slice A xs.length cap ∧ xs.length ≤ cap ∧ SliceAt A xs.length cap ∧ OwnAt g w sz xs.length A cap o ∧ (∀ x ∈ xs, x.length = sz) ∧ RC g w xs.flatten olds ∧
      (∀ w' : World, (∀ a, w'.cell? a = w.cell? a) → (Builtin.firstCells sz xs.length v).run P w' = .ok olds.toArray w') ∧
      (∀ b off, A = some ⟨b, off, none⟩ → RX g w sz xs b off) := by
  simp only [R] at h
  obtain ⟨A, cap, rfl, hl, hsl, ho, hX⟩ := h
  cases A with
  | none =>
    have hsl' := hsl
    simp only [SliceAt] at hsl'
    have : xs = [] := List.eq_nil_of_length_eq_zero hsl'.1
    subst this
    exact ⟨none, cap, [], rfl, hl, hsl, ho, (fun _ h => by cases h), by simp [RC], fun w' _ => run_firstCells_none w' sz 0 0 cap, hX⟩
  | some ad =>
    by_cases h0 : xs = []
    · subst h0
      exact ⟨some ad, cap, [], rfl, hl, hsl, ho, (fun _ h => by cases h), by simp [RC], fun w' _ => run_firstCells_some w' sz 0 ad 0 cap [] (by simp) (fun j u hu => by simp at hu), hX⟩
    obtain ⟨b, off, sp⟩ := ad
    have hsl' := hsl.spot hl (List.length_pos_iff.2 h0)
    simp only at hsl'
    subst hsl'
    obtain ⟨h1, news, h2, h3⟩ := (hX b off rfl).flat
    have hnl : news.length = xs.length * sz := by rw [h2.length, flatten_length h1]
    refine ⟨some ⟨b, off, none⟩, cap, news, rfl, hl, hsl, ho, h1, h2, fun w' hw => ?_, hX⟩
    exact run_firstCells_some w' sz xs.length _ xs.length cap news hnl fun j u hu => by
      rw [Addr.add_lit, hw]; exact (h3 j u hu).cell

def G.bump (g : G) : G := { g with next := g.next + 1 }
def St.bump (σ : St) : St := { σ with next := σ.next + 1 }

theorem full_step (hrel : Rel P g σ w) (e : Nat) : E g w (g.new (.full 0 e true)) w ∧ Rel P (g.new (.full 0 e true)) (σ.new (.tok e 0)) w := by
  have hE : E g w (g.new (.full 0 e true)) w := E.of_new hrel.gw (fun b e => by cases e) (E.refl g w hrel.gw)
  refine ⟨hE, hrel.gw.of_new (fun b e => by cases e) (fun _ _ _ _ _ e => by cases e) (fun _ _ _ _ e => by cases e), by simp [St.new, G.new, hrel.next], fun id o hid => ?_, fun k cs hc => GL.mono hE hrel.gw (hrel.glob k cs hc)⟩
  by_cases e : id = g.next
  · subst e
    rw [← hrel.next, St.new_same] at hid
    injection hid with hid
    subst hid
    exact .inr ⟨by rw [← hrel.next, hrel.next]; exact G.new_same _ _, rfl⟩
  · rw [St.new_ne σ _ (by rw [hrel.next]; exact e)] at hid
    exact (hrel.obj id o hid).mono hE hrel.gw (fun k hk => by rw [G.new_ne g _ e]; exact hk) (fun k b hk _ hb => rfl)

theorem own_step (hrel : Rel P g σ w) (n e : Nat) : E g w (g.new (.full n e false)) w ∧ Rel P (g.new (.full n e false)) (σ.new (.tokF e n)) w := by
  have hE : E g w (g.new (.full n e false)) w := E.of_new hrel.gw (fun b e => by cases e) (E.refl g w hrel.gw)
  refine ⟨hE, hrel.gw.of_new (fun b e => by cases e) (fun _ _ _ _ _ e => by cases e) (fun _ _ _ _ e => by cases e), by simp [St.new, G.new, hrel.next], fun id o hid => ?_, fun k cs hc => GL.mono hE hrel.gw (hrel.glob k cs hc)⟩
  by_cases e : id = g.next
  · subst e
    rw [← hrel.next, St.new_same] at hid
    injection hid with hid
    subst hid
    show (g.new _).at_ _ = _
    exact G.new_same _ _
  · rw [St.new_ne σ _ (by rw [hrel.next]; exact e)] at hid
    exact (hrel.obj id o hid).mono hE hrel.gw (fun k hk => by rw [G.new_ne g _ e]; exact hk) (fun k b hk _ hb => rfl)

theorem put_self {t : Nat} {o : Ob} (h : σ.obj t = some o) : σ.put t o = σ := by
  cases σ with
  | mk obj glob next =>
    simp only [St.put] at h ⊢
    congr 1
    funext j
    split
    · rename_i e; rw [e, h]
    · rfl

theorem R_size {o : Own} {sz sz' : Nat} {v : Value} (ho : ∀ t, o ≠ .tok t) (h : R g w (.slice o sz []) v) : R g w (.slice o sz' []) v := by
  simp only [R] at h ⊢
  obtain ⟨A, cap, h1, h2, h3, h4, h5⟩ := h
  refine ⟨A, cap, h1, h2, h3, ?_, fun _ _ _ => by simp only [RX]⟩
  cases o with
  | no => trivial
  | nil => exact h4
  | full => exact h4
  | tok t => exact absurd rfl (ho t)

theorem append_run0 {t tx ty : TypeId} {te sz bytes : Nat} {x y d : D} {u v : Value} {σ' : St} {p : Prop} (hrel : Rel P g σ w) (ht : cmpAppend P t sz bytes = true) (hte : isSliceE P t te = true)
    (hk : (isSliceTy P tx || isStr P tx) = true) (hx : R g w x u) (hy : R g w y v) (hs : appendD σ te sz bytes x y = some (d, σ', p)) (hp : p) (hss : ∀ sz1 xs, x = .slice .full sz1 xs → sz1 = sz) (hnn : ∀ sz1 xs, x ≠ .slice .nil sz1 xs) :
    ∃ r w' g', (Builtin.append_ #[t, tx] ty #[u, v]).run P w = .ok r w' ∧ E g w g' w' ∧ Rel P g' σ' w' ∧ R g' w' d r := by
  obtain ⟨e, i, z, hu, hi, hisz, hib, hpos, hz, hzs⟩ := cmpAppend_spec ht
  have hee : e = te := by
    unfold isSliceE at hte
    rw [hu] at hte
    simpa using hte
  unfold appendD at hs
  split at hs; rotate_left; · cases hs
  rename_i own sz1 xs sz2 ys hys
  have hbound : ∀ {a b : Nat}, (a + b) * bytes ≤ 140737488355328 → ∀ {cap}, cap < a + b → Builtin.nextslicecap (a + b) cap * i.bytes ≤ 281474976710656 := fun h cap hc => growslice_fits hc (by rw [hib]; exact h)
  obtain ⟨A, cap, olds, rfl, hl, hsl, hown, hxl, hxc, hold, hX⟩ := slice_flat (P := P) hx
  have hfc := hold w.drew (fun _ => rfl)
  have hd : E g w g w.drew := E.of_heap hrel.gw (Nat.le_refl _) (fun _ _ => rfl)
  have hreld : Rel P g σ w.drew := hrel.of_heap (Nat.le_refl _) (fun _ _ => rfl)
  -- nothing is appended
  have none_ : ∀ {tx' : TypeId} (news : List Value), tx' = tx → Src P i.size tx v 0 news w → sz1 = i.size → news = [] → cap = xs.length ∧ (∀ a, A = some a → a.spot = none) ∨ (∃ b off, A = some ⟨b, off, none⟩) →
      (Builtin.append_ #[t, tx] ty #[.slice A xs.length cap, v]).run P w = .ok (.slice A xs.length cap) w := by
    intro _ news _ hsrc _ hn0 hA
    subst hn0
    cases A with
    | none =>
      simp only [SliceAt] at hsl
      have h1 := hsl.1
      have h2 := hsl.2
      rw [h1, h2]
      exact run_append_room_none t tx ty e i hu hi v hsrc
    | some ad =>
      obtain ⟨b, off, sp⟩ := ad
      have hsp : sp = none := by
        rcases hA with h | ⟨b', off', h⟩
        · exact h.2 _ rfl
        · injection h with h; injection h with h1 h2 h3
      subst hsp
      exact run_append_room_src w t tx ty e i hu hi b off xs.length cap v 0 [] hsrc (by omega) (fun j hj => by cases hj) (fun j hj => by cases hj)
  -- where a new array is made
  have grow : ∀ (news : List Value), sz1 = i.size → Src P i.size tx v ys.length news w → cap < xs.length + ys.length → (xs.length + ys.length) * bytes ≤ 140737488355328 → xs.length + ys.length ≤ 9223372036854775807 →
      ∃ rest : List Value, (Builtin.append_ #[t, tx] ty #[.slice A xs.length cap, v]).run P w = .ok (.slice (some ⟨w.heap.size, 0, none⟩) (xs.length + ys.length) (grownCap w (xs.length + ys.length) cap e)) (w.drew.alloc (.cells ((olds ++ news).toArray ++ rest.toArray) e)) ∧
        rest.length = (grownCap w (xs.length + ys.length) cap e - (xs.length + ys.length)) * i.size := by
    intro news h1 hsrc hcap hb1 hb2
    have hfc' : (Builtin.firstCells i.size xs.length (.slice A xs.length cap)).run P w.drew = .ok olds.toArray w.drew := by
      subst h1; exact hfc
    have hrun := run_append_grow_src (P := P) w t tx ty e i z hu hi hz A xs.length cap olds hfc' v ys.length news hsrc hcap (by omega) (hbound hb1 hcap)
    refine ⟨(Builtin.zeroCells z.cells (grownCap w (xs.length + ys.length) cap e - (xs.length + ys.length))).toList, ?_, by rw [Array.length_toList, size_zeroCells, hzs, hisz]⟩
    simpa using hrun
  split at hs
  · cases hs
  · exact absurd rfl (hnn _ _)
  · -- no room
    simp only [Option.some.injEq, Prod.mk.injEq] at hs
    obtain ⟨rfl, rfl, rfl⟩ := hs
    obtain ⟨_, rfl, hb1, hb2⟩ := hp
    have h00 := hss _ _ rfl
    subst h00
    obtain ⟨news, hsrc, hyc, hyl⟩ := src_run (w := w) hk hy hys
    have hfull : cap = xs.length := hown.1
    subst hisz
    cases hyys : ys with
    | nil =>
      subst hyys
      have hn0 : news = [] := by have := hyc.length; simpa using this
      exact ⟨_, w, g, none_ (tx' := tx) news rfl hsrc rfl hn0 (.inl hown), E.refl g w hrel.gw, hrel, by simpa using R_no hx⟩
    | cons y0 ys0 =>
      rw [← hyys]
      have hlen : cap < xs.length + ys.length := by rw [hyys, hfull]; simp
      obtain ⟨rest, hrun, hrl⟩ := grow news rfl hsrc hlen hb1 hb2
      have hge := grownCap_ge w (xs.length + ys.length) cap e
      have hs1 : w.drew.heap.size ≤ (w.drew.alloc (.cells ((olds ++ news).toArray ++ rest.toArray) e)).heap.size := by rw [World.size_alloc]; omega
      have hold1 : ∀ b, b < w.drew.heap.size → (w.drew.alloc (.cells ((olds ++ news).toArray ++ rest.toArray) e)).heap[b]? = w.drew.heap[b]? := fun b hlt => heap_oldH w.drew _ b hlt
      have hE1 := E.trans hrel.gw hd (E.of_heap hreld.gw hs1 hold1)
      have hR1 := hreld.of_heap hs1 hold1
      obtain ⟨q1, q2, q3⟩ := grow_cells (e := e) hrel.gw hxl hyl hxc hyc rfl hge hrl rfl hE1 (fun o _ ⟨id, k, hid, hm⟩ => by
        have := hrel.gw.bl id k _ hid (Gh.mut_block hm); omega)
      refine ⟨_, _, g, hrun, hE1, hR1, ?_⟩
      simp only [R]
      refine ⟨some ⟨w.heap.size, 0, none⟩, _, by rw [List.length_append], by rw [List.length_append]; exact hge, Or.inl rfl, trivial, fun b off hA => ?_⟩
      injection hA with hA
      injection hA with h1 h2
      subst h1 h2
      exact q3
  · rename_i t0
    split at hs; rotate_left
    · -- it has no room yet
      rename_i e' n htok
      simp only [Option.some.injEq, Prod.mk.injEq] at hs
      obtain ⟨rfl, rfl, rfl⟩ := hs
      obtain ⟨he', rfl, rfl, rfl, hpos2, hb1, hb2⟩ := hp
      rw [← hee] at he'
      subst he'
      obtain ⟨news, hsrc, hyc, hyl⟩ := src_run (w := w) hk hy hys
      obtain ⟨htlt, htok2⟩ := hown
      subst hisz
      have hat : g.at_ t0 = some (.full xs.length e' false) := hrel.obj t0 _ htok
      -- a new array
      have fresh : ∀ h0, g.at_ t0 = some h0 → Mv w.heap.size h0 (.arr w.heap.size ((xs.length + ys.length) * i.size) (xs.length + ys.length) e') → h0.fixed = false → cap < xs.length + ys.length →
          ∃ r w' g', (Builtin.append_ #[t, tx] ty #[.slice A xs.length cap, v]).run P w = .ok r w' ∧ E g w g' w' ∧ Rel P g' (σ.put t0 (.tok e' (xs.length + ys.length))) w' ∧ R g' w' (.slice (.tok t0) i.size (xs ++ ys)) r := by
        intro h0 hat hm hfix hlen
        obtain ⟨rest, hrun, hrl⟩ := grow news rfl hsrc hlen hb1 hb2
        have hge := grownCap_ge w (xs.length + ys.length) cap e'
        have hcs0 : ((olds ++ news).toArray ++ rest.toArray).size = grownCap w (xs.length + ys.length) cap e' * i.size := by
          simp only [Array.size_append, List.size_toArray]
          have : (olds ++ news).length = (xs.length + ys.length) * i.size := by
            rw [List.length_append, hxc.length, hyc.length, flatten_length hxl, flatten_length hyl, Nat.add_mul]
          rw [this, hrl, ← Nat.add_mul]
          congr 1
          omega
        have hnew : (w.drew.alloc (.cells ((olds ++ news).toArray ++ rest.toArray) e')).heap[w.heap.size]? = some (.cells ((olds ++ news).toArray ++ rest.toArray) e') := heap_alloc_new w.drew _
        have hle : (xs.length + ys.length) * i.size ≤ grownCap w (xs.length + ys.length) cap e' * i.size := Nat.mul_le_mul_right _ hge
        have hsz1 : (w.drew.alloc (.cells ((olds ++ news).toArray ++ rest.toArray) e')).heap.size = w.heap.size + 1 := World.size_alloc w.drew _
        obtain ⟨hE0, hR0⟩ := upd_step (t := t0) (h' := .arr w.heap.size ((xs.length + ys.length) * i.size) (xs.length + ys.length) e') (o' := .tok e' (xs.length + ys.length)) (w' := w.drew.alloc (.cells ((olds ++ news).toArray ++ rest.toArray) e')) hreld hat hm (fun h => by rw [hfix] at h; cases h)
          (by rw [hsz1]; exact Nat.le_succ _) (fun k hk _ => heap_oldH w.drew _ k hk) ⟨rfl, rfl, rfl⟩
          (fun b f n e0 c e1 z' he hc => ⟨c, z', by rw [heap_oldH w.drew _ b (lt_of_heap hc)]; exact hc, rfl, fun _ _ => rfl⟩)
          (fun b hb => by simp only [Gh.block, Option.some.injEq] at hb; rw [hsz1]; omega)
          (fun b f n e0 he => by
            injection he with k1 k2 k3 k4
            subst k1 k2 k4
            exact ⟨_, (0, 0), hnew, by omega, Nat.zero_le _⟩)
          (fun hE => .inl ⟨_, _, G.set_same _ _ _, by omega⟩)
        have hE1 := E.trans hrel.gw hd hE0
        obtain ⟨q1, q2, q3⟩ := grow_cells (e := e') hrel.gw hxl hyl hxc hyc rfl hge hrl rfl hE1 (fun o ho ⟨id, k, hid, hm⟩ => by
          by_cases en : id = t0
          · subst en
            rw [G.set_same] at hid
            injection hid with hid
            subst hid
            simp only [Gh.mut] at hm
            omega
          · rw [G.set_ne _ _ _ en] at hid
            have := hrel.gw.bl id k _ hid (Gh.mut_block hm); omega)
        refine ⟨_, _, _, hrun, hE1, hR0, ?_⟩
        simp only [R]
        refine ⟨some ⟨w.heap.size, 0, none⟩, _, by rw [List.length_append], by rw [List.length_append]; exact hge, Or.inl rfl, ⟨htlt, fun k hk => ?_⟩, fun b off hA => ?_⟩
        · rw [G.set_same] at hk
          injection hk with hk
          subst hk
          rw [List.length_append]
          exact ⟨Nat.le_refl _, fun _ => ⟨0, _, (0, 0), rfl, rfl, by omega, hnew, by omega⟩⟩
        · injection hA with hA
          injection hA with h1 h2
          subst h1 h2
          exact q3
      have hfull := (htok2 _ hat).2 rfl
      exact fresh _ hat (.full (by omega) (Nat.le_refl _)) rfl (by omega)
    · cases hs
    rename_i e' n htok
    simp only [Option.some.injEq, Prod.mk.injEq] at hs
    obtain ⟨rfl, rfl, rfl⟩ := hs
    obtain ⟨he', rfl, rfl, rfl, hb1, hb2⟩ := hp
    rw [← hee] at he'
    subst he'
    obtain ⟨news, hsrc, hyc, hyl⟩ := src_run (w := w) hk hy hys
    obtain ⟨htlt, htok2⟩ := hown
    subst hisz
    cases hyys : ys with
    | nil =>
      subst hyys
      have hn0 : news = [] := by have := hyc.length; simpa using this
      have hAA : cap = xs.length ∧ (∀ a, A = some a → a.spot = none) ∨ (∃ b off, A = some ⟨b, off, none⟩) := by
        rcases hrel.obj t0 _ htok with ⟨b, f, hat, _⟩ | ⟨hat, _⟩
        · obtain ⟨off, c, z0, hA, _⟩ := (htok2 _ hat).2 rfl
          exact .inr ⟨b, off, hA⟩
        · have := (htok2 _ hat).2 rfl
          exact .inl ⟨this.1, this.2.2⟩
      refine ⟨_, w, g, none_ (tx' := tx) news rfl hsrc rfl hn0 hAA, E.refl g w hrel.gw, ?_, by simpa using hx⟩
      rw [List.length_nil, Nat.add_zero, put_self htok]
      exact hrel
    | cons y0 ys0 =>
      rw [← hyys]
      have hpos2 : 0 < ys.length := by rw [hyys]; simp
      -- a new array
      have fresh : ∀ h0, g.at_ t0 = some h0 → Mv w.heap.size h0 (.arr w.heap.size ((xs.length + ys.length) * i.size) (xs.length + ys.length) e') → h0.fixed = false → cap < xs.length + ys.length →
          ∃ r w' g', (Builtin.append_ #[t, tx] ty #[.slice A xs.length cap, v]).run P w = .ok r w' ∧ E g w g' w' ∧ Rel P g' (σ.put t0 (.tok e' (xs.length + ys.length))) w' ∧ R g' w' (.slice (.tok t0) i.size (xs ++ ys)) r := by
        intro h0 hat hm hfix hlen
        obtain ⟨rest, hrun, hrl⟩ := grow news rfl hsrc hlen hb1 hb2
        have hge := grownCap_ge w (xs.length + ys.length) cap e'
        have hcs0 : ((olds ++ news).toArray ++ rest.toArray).size = grownCap w (xs.length + ys.length) cap e' * i.size := by
          simp only [Array.size_append, List.size_toArray]
          have : (olds ++ news).length = (xs.length + ys.length) * i.size := by
            rw [List.length_append, hxc.length, hyc.length, flatten_length hxl, flatten_length hyl, Nat.add_mul]
          rw [this, hrl, ← Nat.add_mul]
          congr 1
          omega
        have hnew : (w.drew.alloc (.cells ((olds ++ news).toArray ++ rest.toArray) e')).heap[w.heap.size]? = some (.cells ((olds ++ news).toArray ++ rest.toArray) e') := heap_alloc_new w.drew _
        have hle : (xs.length + ys.length) * i.size ≤ grownCap w (xs.length + ys.length) cap e' * i.size := Nat.mul_le_mul_right _ hge
        have hsz1 : (w.drew.alloc (.cells ((olds ++ news).toArray ++ rest.toArray) e')).heap.size = w.heap.size + 1 := World.size_alloc w.drew _
        obtain ⟨hE0, hR0⟩ := upd_step (t := t0) (h' := .arr w.heap.size ((xs.length + ys.length) * i.size) (xs.length + ys.length) e') (o' := .tok e' (xs.length + ys.length)) (w' := w.drew.alloc (.cells ((olds ++ news).toArray ++ rest.toArray) e')) hreld hat hm (fun h => by rw [hfix] at h; cases h)
          (by rw [hsz1]; exact Nat.le_succ _) (fun k hk _ => heap_oldH w.drew _ k hk) ⟨rfl, rfl, rfl⟩
          (fun b f n e0 c e1 z' he hc => ⟨c, z', by rw [heap_oldH w.drew _ b (lt_of_heap hc)]; exact hc, rfl, fun _ _ => rfl⟩)
          (fun b hb => by simp only [Gh.block, Option.some.injEq] at hb; rw [hsz1]; omega)
          (fun b f n e0 he => by
            injection he with k1 k2 k3 k4
            subst k1 k2 k4
            exact ⟨_, (0, 0), hnew, by omega, Nat.zero_le _⟩)
          (fun hE => .inl ⟨_, _, G.set_same _ _ _, by omega⟩)
        have hE1 := E.trans hrel.gw hd hE0
        obtain ⟨q1, q2, q3⟩ := grow_cells (e := e') hrel.gw hxl hyl hxc hyc rfl hge hrl rfl hE1 (fun o ho ⟨id, k, hid, hm⟩ => by
          by_cases en : id = t0
          · subst en
            rw [G.set_same] at hid
            injection hid with hid
            subst hid
            simp only [Gh.mut] at hm
            omega
          · rw [G.set_ne _ _ _ en] at hid
            have := hrel.gw.bl id k _ hid (Gh.mut_block hm); omega)
        refine ⟨_, _, _, hrun, hE1, hR0, ?_⟩
        simp only [R]
        refine ⟨some ⟨w.heap.size, 0, none⟩, _, by rw [List.length_append], by rw [List.length_append]; exact hge, Or.inl rfl, ⟨htlt, fun k hk => ?_⟩, fun b off hA => ?_⟩
        · rw [G.set_same] at hk
          injection hk with hk
          subst hk
          rw [List.length_append]
          exact ⟨Nat.le_refl _, fun _ => ⟨0, _, (0, 0), rfl, rfl, by omega, hnew, by omega⟩⟩
        · injection hA with hA
          injection hA with h1 h2
          subst h1 h2
          exact q3
      rcases hrel.obj t0 _ htok with ⟨b, f, hat, _⟩ | ⟨hat, _⟩
      · obtain ⟨off, c, z0, rfl, hoff, hf, hbk, hcap⟩ := (htok2 _ hat).2 rfl
        by_cases hroom : xs.length + ys.length ≤ cap
        · have hnl := hsrc.newsLen
          have hle : (xs.length + ys.length) * i.size ≤ cap * i.size := Nat.mul_le_mul_right _ hroom
          have hmul : (xs.length + ys.length) * i.size = xs.length * i.size + ys.length * i.size := Nat.add_mul ..
          obtain ⟨c1, z1, hb1', _, hfr⟩ := hrel.gw.arr t0 b f _ _ hat
          rw [hbk] at hb1'
          injection hb1' with hb1'
          injection hb1' with q1 q2 q3
          subst q1 q3
          have hrun := run_append_room_src (P := P) w t tx ty e' i hu hi b off xs.length cap v ys.length news hsrc hroom (fun j hj => by
              have : off + xs.length * i.size + j < c.size := by omega
              simp [World.cell?, hbk, this]) (fun j hj => by
              have : ¬ (z0.1 ≤ off + xs.length * i.size + j ∧ off + xs.length * i.size + j < z0.2) := by omega
              obtain ⟨lo, hi'⟩ := z0
              simp only [World.frozen?, hbk]
              simpa using this)
          obtain ⟨c', k1, k2, k3, k4, k5⟩ := setCells_heap b news (off + xs.length * i.size) w c e' z0 hbk (by omega)
          have hblt := hrel.gw.bl t0 _ b hat rfl
          obtain ⟨hE, hR⟩ := upd_step (t := t0) (h' := .arr b (f + ys.length * i.size) (xs.length + ys.length) e') (o' := .tok e' (xs.length + ys.length)) (w' := w.setCells b (off + xs.length * i.size) news) hrel hat
            (.arr (by omega) (.inr ⟨rfl, by omega⟩)) (fun h => by cases h) (by rw [setCells_size]; exact Nat.le_refl _) (fun k _ hk => setCells_other b news _ w k (fun e => hk (by rw [e]; rfl))) (setCells_os b news _ w)
            (fun b' f' n' e0 c2 e2 z2 he hc => by
              injection he with j1 j2 j3 j7
              subst j1 j2
              rw [hbk] at hc
              injection hc with hc
              injection hc with j4 j5 j6
              subst j4 j5 j6
              exact ⟨c', z0, k1, k2, fun o ho => k3 o (by omega)⟩)
            (fun b' hb => by simp only [Gh.block, Option.some.injEq] at hb; rw [setCells_size, ← hb]; exact hblt)
            (fun b' f' n' e0 he => by
              injection he with j1 j2 j3 j7
              subst j1 j2 j7
              exact ⟨c', z0, k1, by omega, by omega⟩)
            (fun hE => .inl ⟨_, _, G.set_same _ _ _, by omega⟩)
          refine ⟨_, _, _, hrun, hE, hR, ?_⟩
          simp only [R]
          refine ⟨some ⟨b, off, none⟩, cap, by rw [List.length_append], by rw [List.length_append]; exact hroom, Or.inl rfl, ⟨htlt, fun k hk => ?_⟩, fun b' off' hA => ?_⟩
          · rw [G.set_same] at hk
            injection hk with hk
            subst hk
            rw [List.length_append]
            exact ⟨Nat.le_refl _, fun _ => ⟨off, c', z0, rfl, hoff, by omega, k1, by omega⟩⟩
          · injection hA with hA
            injection hA with q1 q2
            subst q1 q2
            refine RX.append (RX.mono hE hrel.gw _ _ _ _ (hX b off rfl)) (RX.of_flat hyl (RC.mono hE hrel.gw _ _ hyc) fun j u hu => ?_)
            have hj : j < news.length := by
              rcases Nat.lt_or_ge j news.length with h | h
              · exact h
              · rw [List.getElem?_eq_none h] at hu; cases hu
            refine ⟨⟨c', e', z0, k1, k4 j u hu⟩, ?_⟩
            rintro ⟨id, k, hid, hm⟩
            by_cases en : id = t0
            · subst en
              rw [G.set_same] at hid
              injection hid with hid
              subst hid
              simp only [Gh.mut] at hm
              omega
            · rw [G.set_ne _ _ _ en] at hid
              exact en (hrel.gw.inj id t0 k _ b hid hat (Gh.mut_block hm) rfl)
        · exact fresh _ hat (.arr (by omega) (.inl (Nat.le_refl _))) rfl (by omega)
      · have hfull := (htok2 _ hat).2 rfl
        exact fresh _ hat (.full (by omega) (Nat.le_refl _)) rfl (by omega)

theorem append_run {t tx ty : TypeId} {te sz bytes : Nat} {x y d : D} {u v : Value} {σ' : St} {p : Prop} (hrel : Rel P g σ w) (ht : cmpAppend P t sz bytes = true) (hte : isSliceE P t te = true)
    (hk : (isSliceTy P tx || isStr P tx) = true) (hx : R g w x u) (hy : R g w y v) (hs : appendD σ te sz bytes x y = some (d, σ', p)) (hp : p) :
    ∃ r w' g', (Builtin.append_ #[t, tx] ty #[u, v]).run P w = .ok r w' ∧ E g w g' w' ∧ Rel P g' σ' w' ∧ R g' w' d r := by
  by_cases hnn : ∀ sz1 xs, x ≠ .slice .nil sz1 xs
  · by_cases hss : ∀ sz1 xs, x = .slice .full sz1 xs → sz1 = sz
    · exact append_run0 hrel ht hte hk hx hy hs hp hss hnn
    · simp only [Classical.not_forall] at hss
      obtain ⟨sz1, xs, rfl, hne⟩ := hss
      unfold appendD at hs
      split at hs; rotate_left; · cases hs
      rename_i own sz1' xs' sz2 ys e hys
      injection e with e1 e2 e3
      subst e1 e2 e3
      simp only [Option.some.injEq, Prod.mk.injEq] at hs
      obtain ⟨rfl, rfl, rfl⟩ := hs
      have hxs : xs = [] := by
        rcases hp.1 with h | h
        · exact absurd h hne
        · exact h
      subst hxs
      refine append_run0 (x := .slice .full sz []) hrel ht hte hk (R_size (fun _ h => by cases h) hx) hy (p := (sz = sz ∨ ([] : List (List D)) = []) ∧ sz2 = sz ∧ (([] : List (List D)).length + ys.length) * bytes ≤ 140737488355328 ∧ ([] : List (List D)).length + ys.length ≤ 9223372036854775807) ?_ ⟨.inl rfl, hp.2⟩ (fun _ _ h => by injection h with h1 h2; exact h2.symm) (fun _ _ h => by cases h)
      simp only [appendD, hys]
  · simp only [Classical.not_forall, Classical.not_not] at hnn
    obtain ⟨sz1, xs, rfl⟩ := hnn
    have hR := hx
    simp only [R] at hR
    obtain ⟨A, cap, rfl, hl, hsl, hA, _⟩ := hR
    have hA : A = none := hA
    subst hA
    simp only [SliceAt] at hsl
    have hxs : xs = [] := List.eq_nil_of_length_eq_zero hsl.1
    subst hxs
    unfold appendD at hs
    split at hs; rotate_left; · cases hs
    rename_i own sz1' xs' sz2 ys e hys
    injection e with e1 e2 e3
    subst e1 e2 e3
    simp only [Option.some.injEq, Prod.mk.injEq] at hs
    obtain ⟨rfl, rfl, rfl⟩ := hs
    have hx' : R g w (.slice .full sz []) (.slice none ([] : List (List D)).length cap) := by
      simp only [R]
      exact ⟨none, cap, rfl, hl, hsl, ⟨hsl.2, fun a h => by cases h⟩, fun _ _ h => by cases h⟩
    refine append_run0 (x := .slice .full sz []) hrel ht hte hk hx' hy (p := (sz = sz ∨ ([] : List (List D)) = []) ∧ sz2 = sz ∧ (([] : List (List D)).length + ys.length) * bytes ≤ 140737488355328 ∧ ([] : List (List D)).length + ys.length ≤ 9223372036854775807) ?_ ⟨.inl rfl, hp.2⟩ (fun _ _ h => by injection h with h1 h2; exact h2.symm) (fun _ _ h => by cases h)
    simp only [appendD, hys]

theorem R_vec {t b off len cap k : Nat} (h : g.at_ t = some (.vec b off len cap k)) (hlt : t < g.next) : R g w (.vec t k) (.slice (some ⟨b, off, none⟩) len cap) := by
  simp only [R]
  refine ⟨hlt, ⟨_, _, _, rfl⟩, fun b' off' len' cap' k' h' => ?_⟩
  rw [h] at h'
  injection h' with h'
  injection h' with h1 h2 h3 h4 h5
  subst h1 h2 h3 h4 h5
  exact ⟨Nat.le_refl _, fun _ => rfl⟩

theorem vslice_run {t : TypeId} {sz : Nat} {x hi d : D} {u v : Value} {σ' : St} {p : Prop} (hrel : Rel P g σ w) (ht : isSliceOf P t sz = true) (hx : R g w x u) (hh : R g w hi v)
    (hs : vsliceD σ sz x hi = some (d, σ', p)) (hp : p) :
    ∃ r g', (Instr.sliceAt t u none (some v) none).run P w = .ok r w ∧ E g w g' w ∧ Rel P g' σ' w ∧ R g' w d r := by
  unfold vsliceD at hs
  split at hs; rotate_left; · cases hs
  rename_i id k1 k n
  split at hs; rotate_left; · cases hs
  rename_i k2 sz2 xs hob
  simp only [Option.some.injEq, Prod.mk.injEq] at hs
  obtain ⟨rfl, rfl, rfl⟩ := hs
  obtain ⟨rfl, rfl, hn0, hn1⟩ := hp
  have hob' := hrel.obj id _ hob
  obtain ⟨b, off, cap, c, e, ha, hbk, hcs, hl, hxl, hR⟩ := hob'
  have hlt := hrel.gw.lt id _ ha
  simp only [R] at hx
  have hv := (hx.2.2 _ _ _ _ _ ha).2 rfl
  subst hv
  obtain ⟨hb, hlh, hhl⟩ := run_sliceBounds (P := P) (w := w) (g := g) (isSlice := true) (len := xs.length) (cap := cap) (lo := none) (hi := some (.int k n)) (vlo := none) (vhi := some v) (h := n.toNat) (l := 0) hl
    (.inl ⟨rfl, rfl⟩) (.inr ⟨_, _, rfl, rfl, hh⟩) rfl rfl ⟨hn0, hn1⟩ trivial
  cases hu : P.underlying t with
  | none => simp [isSliceOf, hu] at ht
  | some dd =>
    cases dd <;> simp [isSliceOf, hu] at ht
    have hle : n.toNat ≤ xs.length := by omega
    obtain ⟨hE, hR'⟩ := upd_step (h' := .vec b off n.toNat cap (k2 + 1)) (w' := w) (o' := .vec (k2 + 1) sz2 (xs.take n.toNat)) hrel ha (.vec (by omega) (.inr rfl)) (fun h => by cases h) (Nat.le_refl _) (fun _ _ _ => rfl) ⟨rfl, rfl, rfl⟩
      (fun _ _ _ _ _ _ _ e => by cases e) (fun b' hb => hrel.gw.bl id _ b' ha hb) (fun _ _ _ _ e => by cases e) (fun hE => by
      refine ⟨b, off, cap, c, e, ?_, hbk, hcs, by simp; omega, fun x hx => hxl x (List.mem_of_mem_take hx), RC.mono hE hrel.gw _ _ ?_⟩
      · rw [List.length_take, Nat.min_eq_left hle]
        exact G.set_same _ _ _
      · have hfl := flatten_length hxl
        have hfl' := flatten_length (xs := xs.take n.toNat) (sz := sz2) (fun x hx => hxl x (List.mem_of_mem_take hx))
        have hle2 : n.toNat * sz2 ≤ xs.length * sz2 := Nat.mul_le_mul_right _ hle
        have hcl : xs.length * sz2 ≤ cap * sz2 := Nat.mul_le_mul_right _ hl
        have hsplit : xs.flatten = (xs.take n.toNat).flatten ++ (xs.drop n.toNat).flatten := by rw [← List.flatten_append, List.take_append_drop]
        rw [List.length_take, Nat.min_eq_left hle] at hfl' ⊢
        refine RC.of_get (by simp [hfl']; omega) fun i dd u hd hu => ?_
        have hi : i < n.toNat * sz2 := by
          rcases Nat.lt_or_ge i (n.toNat * sz2) with h | h
          · exact h
          · rw [List.getElem?_eq_none (by omega)] at hd; cases hd
        obtain ⟨u', hu', ho, hr⟩ := hR.get (i := i) (d := dd) (by rw [hsplit, List.getElem?_append, if_pos (by omega)]; exact hd)
        rw [List.getElem?_take, if_pos hi] at hu
        rw [List.getElem?_take, if_pos (by omega)] at hu'
        rw [hu] at hu'
        injection hu' with hu'
        subst hu'
        exact ⟨ho, hr⟩)
    refine ⟨.slice (some ⟨b, off, none⟩) n.toNat cap, _, ?_, hE, hR', ?_⟩
    · have hz : (if cap - 0 = 0 then some (⟨b, off, none⟩ : Addr) else some ⟨b, off, none⟩) = some ⟨b, off, none⟩ := by split <;> rfl
      simp [Instr.sliceAt, run_underlying hu, Instr.slice, hb, run_sizeOf' ht, Addr.add_lit, hz]
    · exact R_vec (G.set_same _ _ _) hlt

theorem vappend_run {t tx ty : TypeId} {sz bytes : Nat} {x y d : D} {u v : Value} {σ' : St} {p : Prop} (hrel : Rel P g σ w) (ht : cmpAppend P t sz bytes = true)
    (hk : (isSliceTy P tx || isStr P tx) = true) (hx : R g w x u) (hy : R g w y v) (hs : vappendD σ sz bytes x y = some (d, σ', p)) (hp : p) :
    ∃ r w' g', (Builtin.append_ #[t, tx] ty #[u, v]).run P w = .ok r w' ∧ E g w g' w' ∧ Rel P g' σ' w' ∧ R g' w' d r := by
  obtain ⟨e, i, z, hu, hi, hisz, hib, hpos, hz, hzs⟩ := cmpAppend_spec ht
  unfold vappendD at hs
  split at hs; rotate_left; · cases hs
  rename_i id k1 sz2 ys hys
  split at hs; rotate_left; · cases hs
  rename_i gk sz1 xs hob
  simp only [Option.some.injEq, Prod.mk.injEq] at hs
  obtain ⟨rfl, rfl, rfl⟩ := hs
  obtain ⟨rfl, rfl, rfl, hb1, hb2⟩ := hp
  have hob' := hrel.obj id _ hob
  obtain ⟨b, off, cap, c, el, ha, hbk, hcs, hl, hxl, hR⟩ := hob'
  have hlt := hrel.gw.lt id _ ha
  simp only [R] at hx
  have hv := (hx.2.2 _ _ _ _ _ ha).2 rfl
  subst hv
  obtain ⟨news, hsrc, hyc, hyl⟩ := src_run (w := w) hk hy hys
  subst hisz
  have hnl := hsrc.newsLen
  have hfx := flatten_length hxl
  have hfy := flatten_length hyl
  have hmul : (xs.length + ys.length) * i.size = xs.length * i.size + ys.length * i.size := Nat.add_mul ..
  have hxc : xs.length * i.size ≤ cap * i.size := Nat.mul_le_mul_right _ hl
  have hall : ∀ x ∈ xs ++ ys, x.length = i.size := fun x hx => by
    rcases List.mem_append.1 hx with h | h
    · exact hxl x h
    · exact hyl x h
  by_cases hroom : xs.length + ys.length ≤ cap
  · have hle : (xs.length + ys.length) * i.size ≤ cap * i.size := Nat.mul_le_mul_right _ hroom
    have hrun := run_append_room_src (P := P) w t tx ty e i hu hi b off xs.length cap v ys.length news hsrc hroom (fun j hj => by
        have : off + xs.length * i.size + j < c.size := by omega
        simp [World.cell?, hbk, this]) (fun j hj => by
        simp [World.frozen?, hbk])
    obtain ⟨c', k1, k2, k3, k4, k5⟩ := setCells_heap b news (off + xs.length * i.size) w c el (0, 0) hbk (by omega)
    obtain ⟨hE, hR'⟩ := upd_step (h' := .vec b off (xs.length + ys.length) cap (gk + 1)) (w' := w.setCells b (off + xs.length * i.size) news) (o' := .vec (gk + 1) i.size (xs ++ ys)) hrel ha
      (.vec (by omega) (.inr rfl)) (fun h => by cases h) (by rw [setCells_size]; exact Nat.le_refl _) (fun k _ hk => setCells_other b news _ w k (fun e => hk (by rw [e]; rfl))) (setCells_os b news _ w)
      (fun _ _ _ _ _ _ _ e => by cases e) (fun b' hb => by rw [setCells_size]; exact hrel.gw.bl id _ b' ha hb) (fun _ _ _ _ e => by cases e) (fun hE => by
        refine ⟨b, off, cap, c', el, by rw [List.length_append]; exact G.set_same _ _ _, k1, by omega, by rw [List.length_append]; exact hroom, hall, RC.mono hE hrel.gw _ _ ?_⟩
        rw [List.flatten_append, List.length_append]
        refine RC.of_get (by simp [hfx, hfy]; omega) fun j dd u hd hu => ?_
        rw [List.getElem?_append, hfx] at hd
        split at hd
        · rename_i hj
          obtain ⟨u', hu', ho, hr⟩ := hR.get hd
          rw [List.getElem?_take, if_pos (by omega), List.getElem?_drop, Array.getElem?_toList] at hu hu'
          rw [k3 (off + j) (by omega), hu'] at hu
          injection hu with hu
          subst hu
          exact ⟨ho, hr⟩
        · rename_i hj
          obtain ⟨u', hu', ho, hr⟩ := hyc.get hd
          have hj2 : j - xs.length * i.size < news.length := by
            rcases Nat.lt_or_ge (j - xs.length * i.size) news.length with h | h
            · exact h
            · rw [List.getElem?_eq_none h] at hu'; cases hu'
          rw [List.getElem?_take, if_pos (by omega), List.getElem?_drop, Array.getElem?_toList] at hu
          have := k4 _ _ hu'
          rw [show off + xs.length * i.size + (j - xs.length * i.size) = off + j by omega, hu] at this
          injection this with this
          subst this
          exact ⟨ho, hr⟩)
    exact ⟨_, _, _, hrun, hE, hR', R_vec (G.set_same _ _ _) hlt⟩
  · 
    have holds : RC g w xs.flatten ((c.toList.drop off).take (xs.length * i.size)) := hR
    have hfc : (Builtin.firstCells i.size xs.length (.slice (some ⟨b, off, none⟩) xs.length cap)).run P w.drew = .ok ((c.toList.drop off).take (xs.length * i.size)).toArray w.drew :=
      run_firstCells_some w.drew i.size xs.length _ xs.length cap _ (by simp; omega) (fun j u hu => by
        have hj : j < xs.length * i.size := by
          rcases Nat.lt_or_ge j (xs.length * i.size) with h | h
          · exact h
          · rw [List.getElem?_eq_none (by simp; omega)] at hu; cases hu
        rw [List.getElem?_take, if_pos hj, List.getElem?_drop, Array.getElem?_toList] at hu
        rw [Addr.add_lit]
        exact cell_of_heap (w := w.drew) hbk hu)
    have hcap : cap < xs.length + ys.length := by omega
    have hrun := run_append_grow_src (P := P) w t tx ty e i z hu hi hz (some ⟨b, off, none⟩) xs.length cap _ hfc v ys.length news hsrc hcap (by omega) (growslice_fits hcap (by rw [hib]; exact hb1))
    have hge := grownCap_ge w (xs.length + ys.length) cap e
    have hd : E g w g w.drew := E.of_heap hrel.gw (Nat.le_refl _) (fun _ _ => rfl)
    have hreld : Rel P g σ w.drew := hrel.of_heap (Nat.le_refl _) (fun _ _ => rfl)
    generalize hco : ((c.toList.drop off).take (xs.length * i.size)) = olds at hrun holds
    generalize hce : (olds ++ news).toArray ++ Builtin.zeroCells z.cells (grownCap w (xs.length + ys.length) cap e - (xs.length + ys.length)) = cells at hrun
    have hcsz : cells.size = grownCap w (xs.length + ys.length) cap e * i.size := by
      rw [← hce, Array.size_append, size_zeroCells, hzs]
      have h1 := holds.length
      simp only [List.size_toArray, List.length_append, h1, hnl, hfx, ← Nat.add_mul]
      congr 1
      omega
    obtain ⟨hE, hR'⟩ := upd_step (h' := .vec w.heap.size 0 (xs.length + ys.length) (grownCap w (xs.length + ys.length) cap e) (gk + 1)) (o' := .vec (gk + 1) i.size (xs ++ ys)) (w' := w.drew.alloc (.cells cells e)) hreld ha
      (.vec (by omega) (.inl (Nat.le_refl _))) (fun h => by cases h) (by rw [World.size_alloc]; exact Nat.le_succ _) (fun k hk _ => heap_oldH w.drew _ k hk) ⟨rfl, rfl, rfl⟩
      (fun _ _ _ _ _ _ _ e => by cases e) (fun b' hb => by
        simp only [Gh.block, Option.some.injEq] at hb
        rw [World.size_alloc]
        show b' < w.heap.size + 1
        omega) (fun _ _ _ _ e => by cases e) (fun hE => by
      have hnew : (w.drew.alloc (.cells cells e)).heap[w.heap.size]? = some (.cells cells e) := heap_alloc_new w.drew _
      have hE2 := E.trans hrel.gw hd hE
      refine ⟨w.heap.size, 0, _, cells, e, by rw [List.length_append]; exact G.set_same _ _ _, hnew, by omega, by rw [List.length_append]; exact hge, hall, ?_⟩
      have h1 := holds.length
      rw [List.flatten_append, List.length_append, List.drop_zero]
      have hle := Nat.mul_le_mul_right i.size hge
      refine RC.of_get (by
        have hcl2 : cells.toList.length = _ := (Array.length_toList (xs := cells)).trans hcsz
        rw [List.length_take, hcl2, Nat.min_eq_left hle, List.length_append, hfx, hfy, hmul]) fun j dd u hd hu => ?_
      have hj : j < (xs.length + ys.length) * i.size := by
        rcases Nat.lt_or_ge j ((xs.length + ys.length) * i.size) with h | h
        · exact h
        · rw [List.getElem?_eq_none (by simp [hfx, hfy]; omega)] at hd; cases hd
      rw [List.getElem?_take, if_pos hj, Array.getElem?_toList, ← hce, Array.getElem?_append_left (by simp [h1, hnl, hfx]; omega)] at hu
      have hu : (olds ++ news)[j]? = some u := by simpa using hu
      rw [List.getElem?_append] at hd hu
      rw [h1] at hu
      split at hd
      · rename_i hlt
        rw [if_pos hlt] at hu
        obtain ⟨u', hu', ho, hr⟩ := (RC.mono hE2 hrel.gw _ _ holds).get hd
        rw [hu] at hu'
        injection hu' with hu'
        subst hu'
        exact ⟨ho, hr⟩
      · rename_i hlt
        rw [if_neg hlt] at hu
        obtain ⟨u', hu', ho, hr⟩ := (RC.mono hE2 hrel.gw _ _ hyc).get hd
        rw [hu] at hu'
        injection hu' with hu'
        subst hu'
        exact ⟨ho, hr⟩)
    exact ⟨_, _, _, hrun, E.trans hrel.gw hd hE, hR', R_vec (G.set_same _ _ _) hlt⟩

theorem fold_set (off : Nat) : ∀ (L : List Value) (k : Nat) (cells : Array Value), off + k + L.length ≤ cells.size →
    ((L.zipIdx k).foldl (fun cs (p : Value × Nat) => cs.setIfInBounds (off + p.2) p.1) cells).size = cells.size ∧
    ∀ i, ((L.zipIdx k).foldl (fun cs (p : Value × Nat) => cs.setIfInBounds (off + p.2) p.1) cells)[i]? = if off + k ≤ i ∧ i < off + k + L.length then L[i - (off + k)]? else cells[i]?
  | [], k, cells, _ => ⟨rfl, fun i => by simp only [List.zipIdx_nil, List.foldl_nil, List.length_nil]; rw [if_neg (by omega)]⟩
  | v :: L, k, cells, h => by
    simp only [List.length_cons] at h
    obtain ⟨h1, h2⟩ := fold_set off L (k + 1) (cells.setIfInBounds (off + k) v) (by simp; omega)
    simp only [List.zipIdx_cons, List.foldl_cons]
    refine ⟨by simpa using h1, fun i => ?_⟩
    rw [h2 i]
    simp only [List.length_cons]
    by_cases e : i = off + k
    · subst e
      rw [if_neg (by omega), if_pos (by omega)]
      simp [Array.getElem?_setIfInBounds]
      omega
    · rw [Array.getElem?_setIfInBounds_ne (by omega)]
      split
      · rw [if_pos (by omega), show i - (off + k) = i - (off + (k + 1)) + 1 by omega]
        simp
      · rw [if_neg (by omega)]

theorem RC.set {z : List D} {cells : Array Value} {v : Value} {cs : List D} {off : Nat} (hz : RC g w z cells.toList) (hv : RC g w cs v.cells.toList) (hl : off + cs.length ≤ z.length) :
    RC g w (wrD z off cs) (v.cells.zipIdx.foldl (fun cs (p : Value × Nat) => cs.setIfInBounds (off + p.2) p.1) cells).toList ∧
      (v.cells.zipIdx.foldl (fun cs (p : Value × Nat) => cs.setIfInBounds (off + p.2) p.1) cells).size = cells.size := by
  have h1 := hz.length
  have h2 := hv.length
  have e : v.cells.zipIdx.foldl (fun cs (p : Value × Nat) => cs.setIfInBounds (off + p.2) p.1) cells = (v.cells.toList.zipIdx 0).foldl (fun cs (p : Value × Nat) => cs.setIfInBounds (off + p.2) p.1) cells := by
    rw [← Array.foldl_toList, Array.toList_zipIdx]
  rw [e]
  obtain ⟨h3, h4⟩ := fold_set off v.cells.toList 0 cells (by simp at h1 h2 ⊢; omega)
  refine ⟨RC.of_get (by rw [wrD_length hl]; simp at h1 ⊢; omega) fun i d u hd hu => ?_, h3⟩
  rw [wrD_get hl] at hd
  rw [Array.getElem?_toList, h4 i] at hu
  simp only [Nat.add_zero] at hu
  split at hd
  · rename_i hin
    rw [if_pos (by omega)] at hu
    obtain ⟨u', hu', ho, hr⟩ := hv.get hd
    rw [hu] at hu'
    injection hu' with hu'
    subst hu'
    exact ⟨ho, hr⟩
  · rename_i hout
    rw [if_neg (by omega)] at hu
    obtain ⟨u', hu', ho, hr⟩ := hz.get hd
    rw [Array.getElem?_toList] at hu'
    rw [hu] at hu'
    injection hu' with hu'
    subst hu'
    exact ⟨ho, hr⟩

theorem build_fill {env : Env} {a : Act} (hrel : Rel P g σ w) (he : ER g w env a.tmps) {fs : Array Field} {places : Array (Nat × Nat)}
    (hpl : ∀ (i : Nat) (f : Field) (sz : Nat), fs[i]? = some f → tyCells P f.type = some sz → places[i]? = some (f.offset, sz)) : ∀ {parts : List (Nat × Operand)} {ps : List (Nat × Nat × X)} {z cs : List D} {cells : Array Value} {p : Prop},
    cmpParts P fs parts ps = true → RC g w z cells.toList → buildD (evX σ env) z ps = some (cs, p) → p →
    ∃ cells', Instr.fill (places[·]?) cells (parts.map fun q => (q.1, a.eval q.2)) = some cells' ∧ RC g w cs cells'.toList
  | [], [], z, cs, cells, p, _, hz, hb, hp => by
    simp only [buildD, Option.some.injEq, Prod.mk.injEq] at hb
    obtain ⟨rfl, rfl⟩ := hb
    exact ⟨cells, by simp [Instr.fill], hz⟩
  | (i, x) :: parts, (off, sz, x') :: ps, z, cs, cells, p, hc, hz, hb, hp => by
    simp only [cmpParts, Bool.and_eq_true] at hc
    obtain ⟨⟨h1, h2⟩, h3⟩ := hc
    have hR := evX_R hrel he h2
    simp only [buildD] at hb
    split at hb; rotate_left; · cases hb
    rename_i xs hxs
    split at hb; rotate_left; · cases hb
    rename_i r pr hr
    simp only [Option.some.injEq, Prod.mk.injEq] at hb
    obtain ⟨rfl, rfl⟩ := hb
    obtain ⟨⟨rfl, hl⟩, hpr⟩ := hp
    split at h1; rotate_left; · cases h1
    rename_i f hf
    simp only [Bool.and_eq_true, beq_iff_eq] at h1
    obtain ⟨rfl, h1⟩ := h1
    have hv := cells_RC hR hxs
    obtain ⟨k1, k2⟩ := hz.set hv hl
    obtain ⟨cells', k3, k4⟩ := build_fill hrel he hpl h3 k1 hr hpr
    have hvl := hv.length
    have hzl := hz.length
    simp at hvl hzl
    refine ⟨cells', ?_, k4⟩
    simp only [List.map_cons, Instr.fill, hpl i f _ hf h1]
    rw [if_neg (by simp; omega)]
    exact k3
  | [], _ :: _, z, cs, cells, p, hc, _, _, _ => by simp [cmpParts] at hc
  | (_, _) :: _, [], z, cs, cells, p, hc, _, _, _ => by simp [cmpParts] at hc

theorem build_fillA {env : Env} {a : Act} (hrel : Rel P g σ w) (he : ER g w env a.tmps) {sz : Nat} : ∀ {parts : List (Nat × Operand)} {ps : List (Nat × Nat × X)} {z cs : List D} {cells : Array Value} {p : Prop},
    cmpPartsA sz parts ps = true → RC g w z cells.toList → buildD (evX σ env) z ps = some (cs, p) → p →
    ∃ cells', Instr.fill (fun i => some (i * sz, sz)) cells (parts.map fun q => (q.1, a.eval q.2)) = some cells' ∧ RC g w cs cells'.toList
  | [], [], z, cs, cells, p, _, hz, hb, hp => by
    simp only [buildD, Option.some.injEq, Prod.mk.injEq] at hb
    obtain ⟨rfl, rfl⟩ := hb
    exact ⟨cells, by simp [Instr.fill], hz⟩
  | (i, x) :: parts, (off, sz', x') :: ps, z, cs, cells, p, hc, hz, hb, hp => by
    simp only [cmpPartsA, Bool.and_eq_true, beq_iff_eq] at hc
    obtain ⟨⟨⟨rfl, rfl⟩, h2⟩, h3⟩ := hc
    have hR := evX_R hrel he h2
    simp only [buildD] at hb
    split at hb; rotate_left; · cases hb
    rename_i xs hxs
    split at hb; rotate_left; · cases hb
    rename_i r pr hr
    simp only [Option.some.injEq, Prod.mk.injEq] at hb
    obtain ⟨rfl, rfl⟩ := hb
    obtain ⟨⟨hxl, hl⟩, hpr⟩ := hp
    have hv := cells_RC hR hxs
    obtain ⟨k1, k2⟩ := hz.set hv (by rw [hxl]; exact hl)
    obtain ⟨cells', k3, k4⟩ := build_fillA hrel he h3 k1 hr hpr
    have hvl := hv.length
    have hzl := hz.length
    simp at hvl hzl
    refine ⟨cells', ?_, k4⟩
    simp only [List.map_cons, Instr.fill]
    rw [if_neg (by simp; omega)]
    exact k3
  | [], _ :: _, z, cs, cells, p, hc, _, _, _ => by simp [cmpPartsA] at hc
  | (_, _) :: _, [], z, cs, cells, p, hc, _, _, _ => by simp [cmpPartsA] at hc

theorem flatten_set {sz : Nat} : ∀ {z : List (List D)} {i : Nat} {cs : List D}, (∀ x ∈ z, x.length = sz) → i < z.length → cs.length = sz → (z.set i cs).flatten = wrD z.flatten (i * sz) cs
  | [], i, cs, _, h, _ => by simp at h
  | x :: z, 0, cs, hz, h, hc => by
    have hx := hz x (by simp)
    unfold wrD
    simp only [List.set_cons_zero, List.flatten_cons, Nat.zero_mul, Nat.zero_add, List.take_zero, List.nil_append]
    split
    · rename_i hh
      have : z.flatten = [] := by
        have := hh.2
        rw [List.length_append] at this
        exact List.eq_nil_of_length_eq_zero (by omega)
      simp [this]
    · rw [hc, ← hx, List.drop_left]
  | x :: z, i + 1, cs, hz, h, hc => by
    have hx := hz x (by simp)
    have ih := flatten_set (z := z) (i := i) (cs := cs) (fun y hy => hz y (by simp [hy])) (by simpa using h) hc
    simp only [List.set_cons_succ, List.flatten_cons, ih]
    have hl : i * sz + cs.length ≤ z.flatten.length := by
      rw [flatten_length (fun y hy => hz y (by simp [hy])), hc]
      have : (i + 1) * sz ≤ z.length * sz := Nat.mul_le_mul_right _ (by simp at h; omega)
      rw [Nat.add_mul] at this
      omega
    apply List.ext_getElem?
    intro j
    rw [List.getElem?_append, wrD_get hl, wrD_get (by rw [List.length_append, Nat.add_mul]; omega), List.getElem?_append, Nat.add_mul]
    by_cases hj : j < x.length
    · rw [if_pos hj, if_neg (by omega), if_pos hj]
    · rw [if_neg hj, if_neg hj]
      by_cases h2 : i * sz ≤ j - x.length ∧ j - x.length < i * sz + cs.length
      · rw [if_pos h2, if_pos (by omega)]
        congr 1
        omega
      · rw [if_neg h2, if_neg (by omega)]

theorem store_vec {t : TypeId} {sz id k sz1 i off : Nat} {y : D} {u v : Value} {d : D} {σ' : St} {p : Prop} (hrel : Rel P g σ w) (ht : tyCells P t = some sz) (hx : R g w (.vptr id k sz1 i off) u) (hy : R g w y v)
    (hs : storeD σ sz (.vptr id k sz1 i off) y = some (d, σ', p)) (hp : p) : ∃ w', (Instr.storeAt t u v).run P w = .ok () w' ∧ E g w g w' ∧ Rel P g σ' w' := by
  simp only [storeD] at hs
  split at hs; rotate_left; · cases hs
  rename_i k' sz2 xs hcs
  split at hs; rotate_left; · cases hs
  rename_i vs hvs
  simp only [Option.some.injEq, Prod.mk.injEq] at hs
  obtain ⟨rfl, rfl, rfl⟩ := hs
  obtain ⟨hl, hil, hb, rfl, rfl⟩ := hp
  obtain ⟨b, off0, cap, c, e, hid, hh, hroom, hcap, hxl, hR⟩ := hrel.obj id _ hcs
  simp only [R] at hx
  have hu := (hx.2.2 _ _ _ _ _ hid).2 rfl
  subst hu
  have hv := cells_RC hy hvs
  have hvl := hv.length
  have hm1 : (i + 1) * sz1 ≤ xs.length * sz1 := Nat.mul_le_mul_right _ hil
  have hm2 : xs.length * sz1 ≤ cap * sz1 := Nat.mul_le_mul_right _ hcap
  have hm3 : (i + 1) * sz1 = i * sz1 + sz1 := by rw [Nat.add_mul, Nat.one_mul]
  have hvl' : v.cells.toList.length = sz := by omega
  have hxi : (xs.getD i []).length = sz1 := by
    rw [List.getD_eq_getElem?_getD, List.getElem?_eq_getElem hil]
    exact hxl _ (List.getElem_mem hil)
  have hroom2 : off0 + i * sz1 + off + v.cells.toList.length ≤ c.size := by omega
  obtain ⟨c', h1, h2, h3, h4, h5⟩ := setCells_heap b v.cells.toList (off0 + i * sz1 + off) w c e (0, 0) hh hroom2
  have hone : ∀ x ∈ v.cells.toList, x.oneCell' = true := fun x hx => by
    obtain ⟨i, hi, rfl⟩ := List.getElem_of_mem hx
    have hil : i < vs.length := by omega
    obtain ⟨u, hu, ho, _⟩ := hv.get (List.getElem?_eq_getElem hil)
    rw [List.getElem?_eq_getElem hi] at hu
    injection hu with hu
    rwa [hu]
  have hrun := run_storeCells_cells (P := P) b (off0 + i * sz1 + off) v.cells.toList 0 w (fun j hj => by
      have : off0 + i * sz1 + off + j < c.size := by omega
      simp [World.cell?, hh, this]) (fun j hj => by simp [World.frozen?, hh]) hone
  have hgset : g.set id (.vec b off0 xs.length cap k') = g := by
    unfold G.set
    congr 1
    funext j
    split
    · rename_i e; rw [e, hid]
    · rfl
  have hwl : (wrD (xs.getD i []) off vs).length = sz1 := by rw [wrD_length (by omega)]; exact hxi
  have hxl' : ∀ x ∈ xs.set i (wrD (xs.getD i []) off vs), x.length = sz1 := fun x hx => by
    rcases List.mem_or_eq_of_mem_set hx with h | h
    · exact hxl x h
    · rw [h, hwl]
  have hfl := flatten_length hxl
  have hfl' := flatten_length hxl'
  have hc0 : c.toList.length = c.size := by simp
  have hc1 : c'.toList.length = c.size := by simp [h2]
  obtain ⟨hE, hR'⟩ := upd_step (w' := w.setCells b (off0 + i * sz1 + off) v.cells.toList) (o' := .vec k' sz1 (xs.set i (wrD (xs.getD i []) off vs))) hrel hid (.refl _) (fun _ => rfl) (by rw [setCells_size]; exact Nat.le_refl _)
    (fun k _ hk => setCells_other b _ _ w k (fun e => hk (by rw [e]; rfl))) (setCells_os b _ _ w) (fun _ _ _ _ _ _ _ e => by cases e) (fun b' e => by
      simp only [Gh.block, Option.some.injEq] at e
      rw [← e, setCells_size]; exact hrel.gw.bl id _ b hid rfl) (fun _ _ _ _ e => by cases e) (fun hE => by
      rw [hgset] at hE ⊢
      refine ⟨b, off0, cap, c', e, by rw [List.length_set]; exact hid, h1, by omega, by rw [List.length_set]; exact hcap, hxl', ?_⟩
      rw [List.length_set] at hfl' ⊢
      refine RC.of_get (by rw [hfl', List.length_take, List.length_drop]; omega) fun j d u hd hu => ?_
      have hj : j < xs.length * sz1 := by
        rcases Nat.lt_or_ge j (xs.length * sz1) with h | h
        · exact h
        · rw [List.getElem?_eq_none (by omega)] at hd; cases hd
      rw [List.getElem?_take, if_pos hj, List.getElem?_drop, Array.getElem?_toList] at hu
      have hold : xs.flatten[j]? = some d → c'[off0 + j]? = c[off0 + j]? → u.oneCell' = true ∧ R g (w.setCells b (off0 + i * sz1 + off) v.cells.toList) d u := fun hd he => by
        obtain ⟨u2, hu2, ho, hr⟩ := hR.get hd
        rw [List.getElem?_take, if_pos hj, List.getElem?_drop, Array.getElem?_toList] at hu2
        rw [he, hu2] at hu
        injection hu with hu
        subst hu
        exact ⟨ho, R.mono hE hrel.gw _ _ hr⟩
      rw [flatten_set hxl hil hwl, wrD_get (by omega)] at hd
      split at hd
      · rename_i hin
        rw [wrD_get (by omega)] at hd
        split at hd
        · rename_i hin2
          obtain ⟨u2, hu2, ho, hr⟩ := hv.get hd
          have := h4 (j - i * sz1 - off) u2 hu2
          rw [show off0 + i * sz1 + off + (j - i * sz1 - off) = off0 + j by omega, hu] at this
          injection this with this
          subst this
          exact ⟨ho, R.mono hE hrel.gw _ _ hr⟩
        · rename_i hout
          rw [← flatten_get hxl hil (by omega), show i * sz1 + (j - i * sz1) = j by omega] at hd
          refine hold hd ?_
          rcases Nat.lt_or_ge (off0 + j) (off0 + i * sz1 + off) with hlt | hge
          · exact h3 _ hlt
          · exact h5 _ (by omega)
      · rename_i hout
        refine hold hd ?_
        rcases Nat.lt_or_ge (off0 + j) (off0 + i * sz1 + off) with hlt | hge
        · exact h3 _ hlt
        · exact h5 _ (by omega))
  rw [hgset] at hE hR'
  refine ⟨_, ?_, hE, hR'⟩
  have hsz : ¬ v.cells.size ≠ sz := by simp at hvl; omega
  simp only [Nat.add_zero] at hrun
  simp only [Instr.storeAt, Instr.sureAddr, Sem.run_bind, Sem.run_pure, Result.andThen_ok, storeVar, run_sizeOf' ht, if_neg hsz, Nat.add_zero, hrun]

theorem store_any {t : TypeId} {sz : Nat} {x y : D} {u v : Value} {d : D} {σ' : St} {p : Prop} (hrel : Rel P g σ w) (ht : tyCells P t = some sz) (hx : R g w x u) (hy : R g w y v)
    (hs : storeD σ sz x y = some (d, σ', p)) (hp : p) : (∃ w', (Instr.storeAt t u v).run P w = .ok () w' ∧ E g w g w' ∧ Rel P g σ' w') ∧ d = .undef := by
  refine ⟨?_, ?_⟩
  · by_cases h : ∃ id k sz1 i off, x = .vptr id k sz1 i off
    · obtain ⟨id, k, sz1, i, off, rfl⟩ := h
      exact store_vec hrel ht hx hy hs hp
    · exact store_run (fun id k sz1 i off e => h ⟨id, k, sz1, i, off, e⟩) hrel ht hx hy hs hp
  · unfold storeD at hs
    split at hs
    all_goals first
      | (cases hs; done)
      | skip
    all_goals
      split at hs
      all_goals first
        | (cases hs; done)
        | skip
      split at hs
      all_goals first
        | (cases hs; done)
        | skip
      simp only [Option.some.injEq, Prod.mk.injEq] at hs
      exact hs.1.symm

theorem bslice_fill {env : Env} {a : Act} (hrel : Rel P g σ w) (he : ER g w env a.tmps) {sz : Nat} : ∀ {parts : List (Nat × Operand)} {ps : List (Nat × X)} {z xs : List (List D)} {cells : Array Value} {p : Prop},
    cmpParts2 parts ps = true → (∀ x ∈ z, x.length = sz) → RC g w z.flatten cells.toList → fillD (evX σ env) sz z ps = some (xs, p) → p →
    ∃ cells', Instr.fill (fun i => some (i * sz, sz)) cells (parts.map fun q => (q.1, a.eval q.2)) = some cells' ∧ RC g w xs.flatten cells'.toList ∧ (∀ x ∈ xs, x.length = sz) ∧ xs.length = z.length
  | [], [], z, xs, cells, p, _, hzl, hz, hb, hp => by
    simp only [fillD, Option.some.injEq, Prod.mk.injEq] at hb
    obtain ⟨rfl, rfl⟩ := hb
    exact ⟨cells, by simp [Instr.fill], hz, hzl, rfl⟩
  | (i, x) :: parts, (j, x') :: ps, z, xs, cells, p, hc, hzl, hz, hb, hp => by
    simp only [cmpParts2, Bool.and_eq_true, beq_iff_eq] at hc
    obtain ⟨⟨rfl, h2⟩, h3⟩ := hc
    have hR := evX_R hrel he h2
    simp only [fillD] at hb
    split at hb; rotate_left; · cases hb
    rename_i cs hcs
    split at hb; rotate_left; · cases hb
    rename_i r pr hr
    simp only [Option.some.injEq, Prod.mk.injEq] at hb
    obtain ⟨rfl, rfl⟩ := hb
    obtain ⟨⟨hcl, hi⟩, hpr⟩ := hp
    have hv := cells_RC hR hcs
    have hfl := flatten_length hzl
    have hle : i * sz + cs.length ≤ z.flatten.length := by
      rw [hfl, hcl]
      have : (i + 1) * sz ≤ z.length * sz := Nat.mul_le_mul_right _ (by omega)
      rw [Nat.add_mul] at this
      omega
    obtain ⟨k1, k2⟩ := hz.set hv hle
    rw [← flatten_set hzl hi hcl] at k1
    obtain ⟨cells', k3, k4, k5, k6⟩ := bslice_fill hrel he h3 (fun y hy => by
      rcases List.mem_or_eq_of_mem_set hy with h | h
      · exact hzl y h
      · rw [h]; exact hcl) k1 hr hpr
    have hvl := hv.length
    have hzl2 := hz.length
    simp at hvl hzl2
    refine ⟨cells', ?_, k4, k5, by simpa using k6⟩
    simp only [List.map_cons, Instr.fill]
    rw [if_neg (by simp; simp at hle; omega)]
    exact k3
  | [], _ :: _, z, xs, cells, p, hc, _, _, _, _ => by simp [cmpParts2] at hc
  | (_, _) :: _, [], z, xs, cells, p, hc, _, _, _, _ => by simp [cmpParts2] at hc

theorem cmpElems_spec {t sz len : Nat} {z : List (List D)} (h : cmpElems P t sz z len = true) :
    ∃ e i v, P.underlying t = some (.slice e) ∧ P.info? e = some i ∧ i.size = sz ∧ 0 < sz ∧ len * sz ≤ 16777216 ∧ z.length = len ∧ i.zero = some v ∧ v.cells.size = sz ∧ ∀ c ∈ z, cmpVs c v.cells.toList = true := by
  unfold cmpElems at h
  split at h; rotate_left; · cases h
  rename_i e hu
  simp only [Bool.and_eq_true, beq_iff_eq, decide_eq_true_eq] at h
  obtain ⟨⟨⟨⟨h1, h2⟩, h3⟩, h4⟩, h5⟩ := h
  unfold tyCells at h1
  cases hi : P.info? e with
  | none => simp [hi] at h1
  | some i =>
    simp only [hi, Option.map_some, Option.some.injEq, Option.bind_some] at h1 h5
    cases hz : i.zero with
    | none => simp [hz] at h5
    | some z =>
      simp only [hz, Bool.and_eq_true, beq_iff_eq, List.all_eq_true] at h5
      exact ⟨e, i, z, hu, hi, h1, h2, h3, h4, hz, h5.1, h5.2⟩

theorem zeros_flat {v : Value} {sz : Nat} (hs : v.cells.size = sz) (hp : 0 < sz) : ∀ (len : Nat) {z : List (List D)}, z.length = len → (∀ c ∈ z, cmpVs c v.cells.toList = true) →
    RC g w z.flatten ((Array.range (len * sz)).map (fun i => v.cells[i % v.cells.size]!)).toList ∧ ∀ c ∈ z, c.length = sz := by
  intro len z hl hz
  have hc : ∀ c ∈ z, c.length = sz := fun c hc => by
    have := (cmpVs_RC g w c _ (hz c hc)).length
    simp at this
    omega
  refine ⟨RC.of_get (by simp [flatten_length hc, hl]) fun i d u hd hu => ?_, hc⟩
  have hi : i < len * sz := by
    rcases Nat.lt_or_ge i (len * sz) with h | h
    · exact h
    · rw [List.getElem?_eq_none (by simp; omega)] at hu; cases hu
  have hu' : v.cells[i % sz]! = u := by
    simp [List.getElem?_map, List.getElem?_range, hi, hs] at hu
    simpa using hu
  -- the i-th of the flat list is the (i % sz)-th of an element
  have key : ∀ {z : List (List D)} {i : Nat}, (∀ c ∈ z, c.length = sz) → z.flatten[i]? = some d → ∃ c ∈ z, c[i % sz]? = some d := by
    intro z
    induction z with
    | nil => intro i _ h; simp at h
    | cons x z ih =>
      intro i hc h
      have hx := hc x (by simp)
      rw [List.flatten_cons, List.getElem?_append] at h
      split at h
      · rename_i hlt
        exact ⟨x, by simp, by rw [Nat.mod_eq_of_lt (by omega)]; exact h⟩
      · rename_i hge
        obtain ⟨c, hcm, hcc⟩ := ih (fun y hy => hc y (by simp [hy])) h
        refine ⟨c, by simp [hcm], ?_⟩
        rw [hx, ← Nat.mod_eq_sub_mod (by omega)] at hcc
        exact hcc
  obtain ⟨c, hcm, hcc⟩ := key hc hd
  obtain ⟨u2, hu2, ho, hr⟩ := (cmpVs_RC g w c _ (hz c hcm)).get hcc
  have hlt : i % sz < v.cells.size := by rw [hs]; exact Nat.mod_lt _ hp
  rw [Array.getElem?_toList, Array.getElem?_eq_getElem hlt] at hu2
  injection hu2 with hu2
  have : u = u2 := by rw [← hu', ← hu2, getElem!_pos v.cells _ hlt]
  subst this
  exact ⟨ho, hr⟩

theorem run_mapM_list {α β : Type} (f : α → Sem β) (F : α → β) : ∀ (l : List α), (∀ x ∈ l, (f x).run P w = .ok (F x) w) → (l.mapM f).run P w = .ok (l.map F) w
  | [], _ => by simp
  | x :: l, h => by
    have ih := run_mapM_list f F l (fun y hy => h y (by simp [hy]))
    simp [h x (by simp), ih]

theorem run_places {fs : Array Field} (hall : (fs.toList.all fun f => (tyCells P f.type).isSome) = true) :
    ∃ places : Array (Nat × Nat), (fs.mapM fun f => do pure (f.offset, ← sizeOf f.type) : Sem (Array (Nat × Nat))).run P w = .ok places w ∧
      ∀ (i : Nat) (f : Field) (sz : Nat), fs[i]? = some f → tyCells P f.type = some sz → places[i]? = some (f.offset, sz) := by
  have hone : ∀ f ∈ fs.toList, (do pure (f.offset, ← sizeOf f.type) : Sem (Nat × Nat)).run P w = .ok (f.offset, (tyCells P f.type).getD 0) w := fun f hf => by
    have := List.all_eq_true.1 hall f hf
    obtain ⟨n, hn⟩ := Option.isSome_iff_exists.1 this
    simp [run_sizeOf' hn, hn]
  refine ⟨(fs.toList.map fun f => (f.offset, (tyCells P f.type).getD 0)).toArray, ?_, fun i f sz hf hs => ?_⟩
  · rw [Array.mapM_eq_mapM_toList, Sem.run_map, run_mapM_list _ _ _ hone]
    rfl
  · simp [hf, hs]

theorem hstep_run {o : Oper} {h : HO} {env : Env} {a : Act} {d : D} {σ' : St} {p : Prop} (hrel : Rel P g σ w) (he : ER g w env a.tmps) (hc : (cmpHV P o h || cmpHS P o h) = true)
    (hv : hstep σ (evX σ env) h = some (d, σ', p)) (hp : p) :
    ∃ v w' g', ((execOp a.eval o).run P w = .ok (.value v) w' ∨ ((execOp a.eval o).run P w = .ok .skip w' ∧ v = Go.undef)) ∧ E g w g' w' ∧ Rel P g' σ' w' ∧ R g' w' d v := by
  by_cases hcv : cmpHV P o h = true
  · have hval' : ∃ p', hval σ (evX σ env) h = some (d, p') ∧ p' ∧ σ' = σ := by
      cases h <;> (try (simp [cmpHV] at hcv; done)) <;>
        (simp only [hstep] at hv
         split at hv
         · rename_i d' p' hh
           simp only [Option.some.injEq, Prod.mk.injEq] at hv
           obtain ⟨rfl, rfl, rfl⟩ := hv
           exact ⟨_, hh, hp, rfl⟩
         · cases hv)
    obtain ⟨p', hv', hp', rfl⟩ := hval'
    obtain ⟨v, hr, hR⟩ := hval_run hrel he hcv hv' hp'
    exact ⟨v, w, g, .inl hr, E.refl g w hrel.gw, hrel, hR⟩
  · simp only [Bool.or_eq_true, hcv, false_or, Bool.false_eq_true] at hc
    obtain ⟨dst, op, type, pos, after, guard⟩ := o
    cases h <;> simp only [cmpHS, Bool.false_eq_true] at hc
    case alloc z =>
      split at hc; rotate_left; · cases hc
      rename_i t
      simp only [hstep, Option.some.injEq, Prod.mk.injEq] at hv
      obtain ⟨rfl, rfl, rfl⟩ := hv
      unfold cmpZero at hc
      split at hc; rotate_left; · cases hc
      rename_i v hz
      obtain ⟨i, hi, hz⟩ := Option.bind_eq_some_iff.1 hz
      obtain ⟨h1, h2, h3⟩ := new_var hrel t (cmpVs_RC g w z _ hc)
      exact ⟨_, _, _, .inl (by simp [execOp, Instr.alloc, zeroValue, typeInfo, hi, hz, run_newVar]), h1, h2, h3⟩
    case box x =>
      split at hc; rotate_left; · cases hc
      rename_i t y
      simp only [hstep] at hv
      split at hv; rotate_left; · cases hv
      rename_i cs hcs
      simp only [Option.some.injEq, Prod.mk.injEq] at hv
      obtain ⟨rfl, rfl, rfl⟩ := hv
      obtain ⟨h1, h2, h3⟩ := new_var hrel t (cells_RC (evX_R hrel he hc) hcs)
      exact ⟨_, _, _, .inl (by simp [execOp, Instr.box, run_newVar]), h1, h2, h3⟩
    case build z ps =>
      split at hc; rotate_left; · cases hc
      rename_i t parts
      split at hc; rotate_left 2; · cases hc
      rotate_left
      · rename_i n e hu
        split at hc; rotate_left; · cases hc
        rename_i sz hsz
        simp only [Bool.and_eq_true] at hc
        obtain ⟨hz, hparts⟩ := hc
        simp only [hstep] at hv
        split at hv; rotate_left; · cases hv
        rename_i cs pr hb
        simp only [Option.some.injEq, Prod.mk.injEq] at hv
        obtain ⟨rfl, rfl, rfl⟩ := hv
        unfold cmpZero at hz
        split at hz; rotate_left; · cases hz
        rename_i v hzz
        obtain ⟨i, hi, hzz⟩ := Option.bind_eq_some_iff.1 hzz
        obtain ⟨cells', hf, hR⟩ := build_fillA hrel he hparts (cmpVs_RC g w z _ hz) hb hp
        refine ⟨.agg cells', w, g, .inl ?_, E.refl g w hrel.gw, hrel, by simp only [R]; exact ⟨_, rfl, hR⟩⟩
        have hf' : Instr.fill (fun i => some (i * sz, sz)) v.cells (parts.map fun (i, x) => (i, a.eval x)).toList = some cells' := by rw [Array.toList_map]; exact hf
        simp only [execOp, Instr.build, Sem.run_bind, zeroValue, typeInfo, run_program, Result.andThen_ok, hi, hzz, Sem.run_pure, run_underlying hu, run_sizeOf' hsz, hf']
      rename_i fs hu
      simp only [Bool.and_eq_true] at hc
      obtain ⟨⟨hall, hz⟩, hparts⟩ := hc
      simp only [hstep] at hv
      split at hv; rotate_left; · cases hv
      rename_i cs pr hb
      simp only [Option.some.injEq, Prod.mk.injEq] at hv
      obtain ⟨rfl, rfl, rfl⟩ := hv
      unfold cmpZero at hz
      split at hz; rotate_left; · cases hz
      rename_i v hzz
      obtain ⟨i, hi, hzz⟩ := Option.bind_eq_some_iff.1 hzz
      obtain ⟨places, hpr, hpl⟩ := run_places (P := P) (w := w) hall
      obtain ⟨cells', hf, hR⟩ := build_fill hrel he hpl hparts (cmpVs_RC g w z _ hz) hb hp
      refine ⟨.agg cells', w, g, .inl ?_, E.refl g w hrel.gw, hrel, by simp only [R]; exact ⟨_, rfl, hR⟩⟩
      have hf' : Instr.fill (places[·]?) v.cells (parts.map fun (i, x) => (i, a.eval x)).toList = some cells' := by rw [Array.toList_map]; exact hf
      simp only [execOp, Instr.build, Sem.run_bind, zeroValue, typeInfo, run_program, Result.andThen_ok, hi, hzz, Sem.run_pure, run_underlying hu, hpr, hf']
    case bslice sz z ps =>
      split at hc; rotate_left; · cases hc
      rename_i t len parts
      simp only [Bool.and_eq_true] at hc
      obtain ⟨hz, hparts⟩ := hc
      simp only [hstep] at hv
      split at hv; rotate_left; · cases hv
      rename_i xs pr hb
      simp only [Option.some.injEq, Prod.mk.injEq] at hv
      obtain ⟨rfl, rfl, rfl⟩ := hv
      obtain ⟨e, i, v, hu, hi, rfl, hpos, hle, hzl, hzz, hvs, hcv⟩ := cmpElems_spec hz
      obtain ⟨hz1, hz2⟩ := zeros_flat (g := g) (w := w) hvs hpos len hzl hcv
      obtain ⟨cells', hf, hR, hxl, hxn⟩ := bslice_fill hrel he hparts hz2 hz1 hb hp
      have hsz : tyCells P e = some i.size := by simp [tyCells, hi]
      have hf' : Instr.fill (fun k => some (k * i.size, i.size)) ((Array.range (len * i.size)).map (fun k => v.cells[k % v.cells.size]!)) (parts.map fun (k, x) => (k, a.eval x)).toList = some cells' := by rw [Array.toList_map]; exact hf
      have hcl : cells'.size = len * i.size := by
        have := hR.length
        rw [flatten_length hxl, hxn, hzl] at this
        simpa using this
      have hs : w.heap.size ≤ (w.alloc (.cells cells' e)).heap.size := by rw [World.size_alloc]; omega
      have hold : ∀ b, b < w.heap.size → (w.alloc (.cells cells' e)).heap[b]? = w.heap[b]? := fun b hlt => heap_oldH w _ b hlt
      have hE := E.of_heap (w' := w.alloc (.cells cells' e)) hrel.gw hs hold
      refine ⟨.slice (some ⟨w.heap.size, 0, none⟩) len len, w.alloc (.cells cells' e), g, .inl ?_, hE, hrel.of_heap hs hold, ?_⟩
      · have hbig : ¬ (len * i.size > 16777216) := by omega
        simp only [execOp, Instr.buildSlice, Sem.run_bind, run_underlying hu, Result.andThen_ok, run_sizeOf' hsz]
        rw [show (2 : Nat) ^ 24 = 16777216 from rfl, if_neg hbig]
        by_cases h0 : len * i.size = 0
        · rw [if_pos h0]
          have hr0 : ∀ {α : Type} (f : Nat → α), (Array.range 0).map f = #[] := fun f => by simp [Array.range]
          simp only [h0, hr0] at hf' ⊢
          simp only [Sem.run_bind, Sem.run_pure, Result.andThen_ok, hf']
          simp [newRow]
        · rw [if_neg h0]
          simp only [Sem.run_bind, zeroValue, typeInfo, run_program, Result.andThen_ok, hi, hzz, Sem.run_pure, hf']
          simp [newRow]
      · simp only [R]
        refine ⟨some ⟨w.heap.size, 0, none⟩, len, by rw [hxn, hzl], by omega, Or.inl rfl, ⟨by rw [hxn, hzl], fun a ha => by injection ha with ha; rw [← ha]⟩, fun b off hA => ?_⟩
        injection hA with hA
        injection hA with h1 h2
        subst h1 h2
        refine RX.of_flat hxl (RC.mono hE hrel.gw _ _ hR) fun j u hu => ?_
        refine ⟨⟨cells', e, (0, 0), heap_alloc_new w _, by rw [Nat.zero_add]; simpa using hu⟩, ?_⟩
        rintro ⟨id, k, hid, hm⟩
        have := hrel.gw.bl id k _ hid (Gh.mut_block hm)
        omega
    case bvec sz z ps =>
      split at hc; rotate_left; · cases hc
      rename_i t len parts
      simp only [Bool.and_eq_true] at hc
      obtain ⟨hz, hparts⟩ := hc
      simp only [hstep] at hv
      split at hv; rotate_left; · cases hv
      rename_i xs pr hb
      simp only [Option.some.injEq, Prod.mk.injEq] at hv
      obtain ⟨rfl, rfl, rfl⟩ := hv
      obtain ⟨e, i, v, hu, hi, rfl, hpos, hle, hzl, hzz, hvs, hcv⟩ := cmpElems_spec hz
      obtain ⟨hz1, hz2⟩ := zeros_flat (g := g) (w := w) hvs hpos len hzl hcv
      obtain ⟨cells', hf, hR, hxl, hxn⟩ := bslice_fill hrel he hparts hz2 hz1 hb hp
      have hsz : tyCells P e = some i.size := by simp [tyCells, hi]
      have hf' : Instr.fill (fun k => some (k * i.size, i.size)) ((Array.range (len * i.size)).map (fun k => v.cells[k % v.cells.size]!)) (parts.map fun (k, x) => (k, a.eval x)).toList = some cells' := by rw [Array.toList_map]; exact hf
      have hcl : cells'.size = len * i.size := by
        have := hR.length
        rw [flatten_length hxl, hxn, hzl] at this
        simpa using this
      obtain ⟨hE, hR'⟩ := new_block (h := .vec w.heap.size 0 len len 0) (o := .vec 0 i.size xs) hrel (.cells cells' e) rfl (fun b f n e0 eq => by cases eq) (fun hE =>
        ⟨w.heap.size, 0, len, cells', e, by rw [hxn, hzl]; exact G.new_same _ _, heap_alloc_new w _, by omega, by omega, hxl, by
          rw [List.drop_zero, List.take_of_length_le (by rw [Array.length_toList, hcl, hxn, hzl]; exact Nat.le_refl _)]
          exact RC.mono hE hrel.gw _ _ hR⟩)
      refine ⟨.slice (some ⟨w.heap.size, 0, none⟩) len len, w.alloc (.cells cells' e), _, .inl ?_, hE, hR', ?_⟩
      · have hbig : ¬ (len * i.size > 16777216) := by omega
        simp only [execOp, Instr.buildSlice, Sem.run_bind, run_underlying hu, Result.andThen_ok, run_sizeOf' hsz]
        rw [show (2 : Nat) ^ 24 = 16777216 from rfl, if_neg hbig]
        by_cases h0 : len * i.size = 0
        · rw [if_pos h0]
          have hr0 : ∀ {α : Type} (f : Nat → α), (Array.range 0).map f = #[] := fun f => by simp [Array.range]
          simp only [h0, hr0] at hf' ⊢
          simp only [Sem.run_bind, Sem.run_pure, Result.andThen_ok, hf']
          simp [newRow]
        · rw [if_neg h0]
          simp only [Sem.run_bind, zeroValue, typeInfo, run_program, Result.andThen_ok, hi, hzz, Sem.run_pure, hf']
          simp [newRow]
      · rw [hrel.next]
        exact R_vec (G.new_same g _) (Nat.lt_succ_self _)
    case vslice sz x y =>
      split at hc; rotate_left; · cases hc
      simp only [Bool.and_eq_true] at hc
      obtain ⟨⟨h1, h2⟩, h3⟩ := hc
      simp only [hstep] at hv
      obtain ⟨r, g', hr, hE, hR, hRR⟩ := vslice_run hrel h1 (evX_R hrel he h2) (evX_R hrel he h3) hv hp
      exact ⟨r, w, g', .inl (by simp [execOp, hr]), hE, hR, hRR⟩
    case vappend sz bytes x y =>
      split at hc; rotate_left; · cases hc
      rename_i c
      simp only [Bool.and_eq_true] at hc
      obtain ⟨hcc, hc⟩ := hc
      split at hc; rotate_left; · cases hc
      rename_i t t' x' y' hts hxs
      simp only [Bool.and_eq_true] at hc
      obtain ⟨⟨⟨h1, h2⟩, h3⟩, h4⟩ := hc
      simp only [hstep] at hv
      obtain ⟨callee, args, ats⟩ := c
      simp only at hcc hts hxs
      have hcal : callee = .builtin .append := by
        unfold isAppend at hcc
        split at hcc
        · rfl
        · cases hcc
      subst hcal
      have ha : args = #[x', y'] := by obtain ⟨l⟩ := args; simp only at hxs; rw [hxs]
      have hat : ats = #[t, t'] := by obtain ⟨l⟩ := ats; simp only at hts; rw [hts]
      subst ha hat
      obtain ⟨r, w', g', hr, hE, hR, hRR⟩ := vappend_run (ty := type) hrel h1 h2 (evX_R hrel he h3) (evX_R hrel he h4) hv hp
      exact ⟨r, w', g', .inl (by simp [execOp, resolve, invoke, builtin, hr]), hE, hR, hRR⟩
    case store sz x y =>
      split at hc; rotate_left; · cases hc
      rename_i t x' y'
      simp only [Bool.and_eq_true, beq_iff_eq] at hc
      obtain ⟨⟨h1, h2⟩, h3⟩ := hc
      simp only [hstep] at hv
      obtain ⟨⟨w', hr, hE, hR⟩, rfl⟩ := store_any hrel h1 (evX_R hrel he h2) (evX_R hrel he h3) hv hp
      refine ⟨Go.undef, w', g, .inr ⟨by simp [execOp, hr], rfl⟩, hE, hR, ?_⟩
      simp only [R]
    case append te sz bytes x y =>
      split at hc; rotate_left; · cases hc
      rename_i c
      simp only [Bool.and_eq_true] at hc
      obtain ⟨hcc, hc⟩ := hc
      split at hc; rotate_left; · cases hc
      rename_i t t' x' y' hts hxs
      simp only [Bool.and_eq_true] at hc
      obtain ⟨⟨⟨⟨h1, h1e⟩, h2⟩, h3⟩, h4⟩ := hc
      simp only [hstep] at hv
      obtain ⟨callee, args, ats⟩ := c
      simp only at hcc hts hxs
      have hcal : callee = .builtin .append := by
        unfold isAppend at hcc
        split at hcc
        · rfl
        · cases hcc
      subst hcal
      have ha : args = #[x', y'] := by obtain ⟨l⟩ := args; simp only at hxs; rw [hxs]
      have hat : ats = #[t, t'] := by obtain ⟨l⟩ := ats; simp only at hts; rw [hts]
      subst ha hat
      obtain ⟨r, w', g', hr, hE, hR, hRR⟩ := append_run (ty := type) hrel h1 h1e h2 (evX_R hrel he h3) (evX_R hrel he h4) hv hp
      exact ⟨r, w', g', .inl (by simp [execOp, resolve, invoke, builtin, hr]), hE, hR, hRR⟩
    case allocT tt z =>
      split at hc; rotate_left; · cases hc
      rename_i t
      simp only [Bool.and_eq_true, beq_iff_eq] at hc
      obtain ⟨rfl, hc⟩ := hc
      simp only [hstep, Option.some.injEq, Prod.mk.injEq] at hv
      obtain ⟨rfl, rfl, rfl⟩ := hv
      unfold cmpZero at hc
      split at hc; rotate_left; · cases hc
      rename_i v hz
      obtain ⟨i, hi, hz⟩ := Option.bind_eq_some_iff.1 hz
      obtain ⟨h1, h2, h3⟩ := new_var hrel t (cmpVs_RC g w z _ hc) (some t) (fun t' h => by injection h)
      exact ⟨_, _, _, .inl (by simp [execOp, Instr.alloc, zeroValue, typeInfo, hi, hz, run_newVar]), h1, h2, h3⟩
    case usd x =>
      split at hc; rotate_left; · cases hc
      rename_i c
      simp only [Bool.and_eq_true] at hc
      obtain ⟨hcc, hc⟩ := hc
      split at hc; rotate_left; · cases hc
      rename_i x' hxs
      simp only [Bool.and_eq_true] at hc
      obtain ⟨hty, h3⟩ := hc
      simp only [hstep] at hv
      obtain ⟨callee, args, ats⟩ := c
      simp only at hcc hxs
      have hcal : callee = .builtin .unsafeSliceData := by
        unfold isUsd at hcc
        split at hcc
        · rfl
        · cases hcc
      subst hcal
      have ha : args = #[x'] := by obtain ⟨l⟩ := args; simp only at hxs; rw [hxs]
      subst ha
      have hx := evX_R hrel he h3
      unfold usdD at hv
      split at hv; rotate_left; · cases hv
      rename_i t0 sz xs hev
      split at hv; rotate_left; · cases hv
      rename_i e0 n0 hob
      rw [hev] at hx
      simp only [Option.some.injEq, Prod.mk.injEq] at hv
      obtain ⟨rfl, rfl, rfl⟩ := hv
      obtain ⟨rfl, rfl⟩ := hp
      simp only [R] at hx
      obtain ⟨A, cap, hval, hl, hsl, ⟨htl, htok⟩, hX⟩ := hx
      rcases hrel.obj t0 _ hob with ⟨b, f, hat, hpos⟩ | ⟨hat, hn0⟩
      · obtain ⟨off, c0, z0, rfl, rfl, hf, hbk, hcap⟩ := (htok _ hat).2 rfl
        have hrun := Go.Lib.run_unsafeSliceData_row (P := P) w ats type ⟨b, 0, none⟩ xs.length cap (by omega)
        refine ⟨.pointer (some ⟨b, 0, none⟩), w, g, .inl (by simp only [execOp, resolve, invoke, builtin]; rw [← hval] at hrun; simp [hrun]), E.refl g w hrel.gw, hrel, ?_⟩
        simp only [R]
        refine ⟨htl, ⟨_, rfl, (fun h => by cases h), fun a ha => by injection ha with ha; rw [← ha]⟩, fun h hh => ?_, fun b' off' hv => ?_⟩
        · rw [hat] at hh
          injection hh with hh
          subst hh
          exact ⟨Nat.le_refl _, fun _ _ => ⟨rfl, by omega⟩⟩
        · injection hv with hv
          exact hX b' off' hv
      · have hA : A = none := ((htok _ hat).2 rfl).2.1 rfl hn0
        subst hA
        have hrun := Go.Lib.run_unsafeSliceData_nil (P := P) w ats type xs.length cap
        refine ⟨.pointer none, w, g, .inl (by simp only [execOp, resolve, invoke, builtin]; rw [← hval] at hrun; simp [hrun]), E.refl g w hrel.gw, hrel, ?_⟩
        simp only [R]
        refine ⟨htl, ⟨_, rfl, (fun _ => List.eq_nil_of_length_eq_zero hn0), fun a ha => by cases ha⟩, fun h hh => ?_, fun b' off' hv => by injection hv with hv; cases hv⟩
        rw [hat] at hh
        injection hh with hh
        subst hh
        exact Nat.le_refl _
    case ustr e x n =>
      split at hc; rotate_left; · cases hc
      rename_i c
      simp only [Bool.and_eq_true] at hc
      obtain ⟨hcc, hc⟩ := hc
      split at hc; rotate_left; · cases hc
      rename_i t t2 x' n' hts hxs
      simp only [Bool.and_eq_true] at hc
      obtain ⟨⟨hty, h3⟩, h4⟩ := hc
      simp only [hstep] at hv
      obtain ⟨callee, args, ats⟩ := c
      simp only at hcc hxs hts
      have hcal : callee = .builtin .unsafeString := by
        unfold isUstr at hcc
        split at hcc
        · rfl
        · cases hcc
      subst hcal
      have ha : args = #[x', n'] := by obtain ⟨l⟩ := args; simp only at hxs; rw [hxs]
      have hat' : ats = #[t, t2] := by obtain ⟨l⟩ := ats; simp only at hts; rw [hts]
      subst ha hat'
      have hx := evX_R hrel he h3
      have hn := evX_R hrel he h4
      unfold ustrD at hv
      split at hv; rotate_left; · cases hv
      rename_i t0 xs m hev hev'
      split at hv; rotate_left; · cases hv
      rename_i e0 k0 hob
      rw [hev] at hx
      rw [hev'] at hn
      simp only [Option.some.injEq, Prod.mk.injEq] at hv
      obtain ⟨rfl, rfl, rfl⟩ := hv
      obtain ⟨rfl, rfl, rfl, hbo, hmax⟩ := hp
      simp only [R] at hx hn
      obtain ⟨htl, ⟨p, hval, _, _⟩, hsp, hX⟩ := hx
      split at hty; rotate_left; · cases hty
      rename_i e' hpt
      simp only [Bool.and_eq_true, beq_iff_eq] at hty
      obtain ⟨rfl, hcells⟩ := hty
      rcases hrel.obj t0 _ hob with ⟨b, f, hat, hpos⟩ | ⟨hat, hn0⟩
      · obtain ⟨hv, hf⟩ := (hsp _ hat).2 rfl (by omega)
        obtain ⟨c0, z0, hbk, hfc, hfr⟩ := hrel.gw.arr t0 b f _ _ hat
        have hXX := hX b 0 hv
        -- the bytes
        have hbytes : ∃ l : List UInt8, l.length = xs.length ∧ bytesD xs = ⟨l.toArray⟩ ∧ ∀ j y, l[j]? = some y → w.cell? ((⟨b, 0, none⟩ : Addr).add j) = some (.int .u8 y.toNat) := by
          have key : ∀ (xs : List (List D)) (o : Nat), bytesOk xs → RX g w 1 xs b o → ∃ l : List UInt8, l.length = xs.length ∧ xs.map byteOf = l ∧ ∀ j y, l[j]? = some y → w.cell? ((⟨b, o, none⟩ : Addr).add j) = some (.int .u8 y.toNat) := by
            intro xs
            induction xs with
            | nil => exact fun o _ _ => ⟨[], rfl, rfl, fun j y h => by simp at h⟩
            | cons x xs ih =>
              intro o hb hX
              obtain ⟨⟨y0, rfl⟩, hb⟩ := hb
              simp only [RX, RM, R] at hX
              obtain ⟨_, ⟨⟨u, hi, _, hu⟩, _⟩, hX⟩ := hX
              obtain ⟨l, h1, h2, h3⟩ := ih (o + 1) hb hX
              refine ⟨y0 :: l, by simp [h1], by simp [byteOf, h2], fun j y h => ?_⟩
              cases j with
              | zero =>
                simp at h
                subst h
                rw [Addr.add_lit, Nat.add_zero, hi.cell, hu]
              | succ j =>
                simp at h
                have := h3 j y h
                rw [Addr.add_lit] at this ⊢
                rwa [show o + (j + 1) = o + 1 + j by omega]
          obtain ⟨l, h1, h2, h3⟩ := key xs 0 hbo hXX
          exact ⟨l, h1, by rw [bytesD, h2], h3⟩
        obtain ⟨l, hl1, hl2, hl3⟩ := hbytes
        have hne : l ≠ [] := fun h => by rw [h] at hl1; simp at hl1; omega
        have hsh : w.shape? b = some (e', c0.size) := by simp [World.shape?, hbk]
        have hrun := Go.Lib.run_unsafeString_row (P := P) w t t2 type e' hpt hcells b c0.size hsh l hne (by omega) (by omega) hl3
        rw [hl1, ← hv, ← hn] at hrun
        have hfz : w.freeze ⟨b, 0, none⟩ xs.length = { w with heap := w.heap.modify b fun
            | .cells c elem (lo, hi) => .cells c elem (if lo == hi then (0, 0 + xs.length) else (min lo 0, max hi (0 + xs.length)))
            | o => o } := by
          unfold World.freeze
          rw [if_neg (by omega)]
          rfl
        obtain ⟨lo, hi⟩ := z0
        have hb1 : (w.freeze ⟨b, 0, none⟩ xs.length).heap[b]? = some (.cells c0 e' (if lo == hi then (0, 0 + xs.length) else (min lo 0, max hi (0 + xs.length)))) := by
          rw [hfz]
          simp only [Array.getElem?_modify, if_true, hbk, Option.map_some]
        have hoth : ∀ k, k ≠ b → (w.freeze ⟨b, 0, none⟩ xs.length).heap[k]? = w.heap[k]? := fun k hk => by
          rw [hfz]
          simp only [Array.getElem?_modify, if_neg (Ne.symm hk)]
        have hszz : (w.freeze ⟨b, 0, none⟩ xs.length).heap.size = w.heap.size := by rw [hfz]; simp
        have hgset : g.set t0 (.arr b f xs.length e') = g := by
          unfold G.set
          congr 1
          funext j
          split
          · rename_i e; rw [e, hat]
          · rfl
        have hputs : σ.put t0 (.tok e' xs.length) = σ := put_self hob
        obtain ⟨hE, hR⟩ := upd_step (t := t0) (h' := .arr b f xs.length e') (o' := .tok e' xs.length) (w' := w.freeze ⟨b, 0, none⟩ xs.length) hrel hat (.refl _) (fun _ => rfl) (by rw [hszz]; exact Nat.le_refl _)
          (fun k _ hk => hoth k (fun e => hk (by rw [e]; rfl))) ⟨by rw [hfz], by rw [hfz], by rw [hfz]⟩
          (fun b' f' n' e1 c2 e2 z2 he hc2 => by
            injection he with j1 j2 j3 j4
            subst j1
            rw [hbk] at hc2
            injection hc2 with hc2
            injection hc2 with j5 j6 j7
            subst j5 j6
            exact ⟨c0, _, hb1, rfl, fun _ _ => rfl⟩)
          (fun b' hb => by simp only [Gh.block, Option.some.injEq] at hb; rw [hszz, ← hb]; exact hrel.gw.bl t0 _ b hat rfl)
          (fun b' f' n' e1 he => by
            injection he with j1 j2 j3 j4
            subst j1 j2 j4
            refine ⟨c0, _, hb1, hfc, ?_⟩
            simp only at hfr ⊢
            split
            · simp only; omega
            · simp only; omega)
          (fun hE => .inl ⟨_, _, G.set_same _ _ _, by omega⟩)
        rw [hgset] at hE hR
        rw [hputs] at hR
        refine ⟨.string (bytesD xs), _, g, .inl (by simp only [execOp, resolve, invoke, builtin]; rw [← hl2] at hrun; simp [hrun]), hE, hR, by simp only [R]⟩
      · have hxs : xs = [] := List.eq_nil_of_length_eq_zero hn0
        subst hxs
        have hrun := Go.Lib.run_unsafeString_none (P := P) w t t2 type p
        have h0 : (Builtin.unsafeString_ #[t, t2] type #[a.eval x', a.eval n']).run P w = .ok (.string (bytesD [])) w := by rw [hval, hn]; exact hrun
        refine ⟨.string (bytesD []), w, g, .inl (by simp only [execOp, resolve, invoke, builtin]; simp [h0]), E.refl g w hrel.gw, hrel, by simp only [R]⟩

end
end Go.Hl
set_option linter.unusedSectionVars false
set_option linter.unusedVariables false
namespace Go.Hl
open Go

def HRet (P : Program) (g : G) (w : World) (Q : D → St → Prop) : Ending → World → Prop
  | .returned v, w' => ∃ d g' σ', E g w g' w' ∧ Rel P g' σ' w' ∧ R g' w' d v ∧ Q d σ'
  | _, _ => False

def NextOk (P : Program) (R : Ending → World → Prop) : Result Next → Prop
  | .ok (.value v) w' => R (.returned v) w'
  | .ok (.enter f args) w' => CallsIn Fence.wide 0 P f args w' R
  | .ok (.row row args) w' => RowsIn Fence.wide 0 P row args w' fun v w'' => R (.returned v) w''
  | .ok (.round l f tmps assign body) w' => RoundIn Fence.wide 0 P l f tmps assign body w' R
  | _ => False

def HCalls (P : Program) (f : Nat) (args : List D) (σ : St) (Q : D → St → Prop) : Prop :=
  ∀ g w vs, Rel P g σ w → RL g w args vs → NextOk P (HRet P g w Q) ((callFunc f vs.toArray).run P w)

def HCallD (P : Program) (d : D) (args : List D) (σ : St) (Q : D → St → Prop) : Prop :=
  ∀ g w v vs, Rel P g σ w → R g w d v → RL g w args vs → ∃ fn cap, v = .func fn #[] cap ∧ NextOk P (HRet P g w Q) ((invoke (.fn fn cap) vs.toArray).run P w)

def Wk (d d' : D) : Prop := ∀ g w v, R g w d v → R g w d' v
def WkL (ds ds' : List D) : Prop := ∀ g w vs, RL g w ds vs → RL g w ds' vs
def WkC (ds ds' : List D) : Prop := ∀ g w vs, RC g w ds vs → RC g w ds' vs

theorem Wk.refl (d : D) : Wk d d := fun _ _ _ h => h
theorem Wk.trans {a b c : D} (h : Wk a b) (k : Wk b c) : Wk a c := fun g w v hv => k g w v (h g w v hv)
theorem Wk.nil {sz sz' : Nat} : Wk (.slice .nil sz []) (.slice .no sz' []) := fun g w v h => by
  simp only [R] at h ⊢
  obtain ⟨A, cap, h1, h2, h3, h4, h5⟩ := h
  exact ⟨A, cap, h1, h2, h3, trivial, fun _ _ _ => by simp only [RX]⟩
theorem Wk.no {o : Own} {sz : Nat} {xs : List (List D)} : Wk (.slice o sz xs) (.slice .no sz xs) := fun g w v h => R_no h
theorem Wk.undef (d : D) : Wk d .undef := fun _ _ _ _ => by simp only [R]
theorem Wk.agg {cs cs' : List D} (h : WkC cs cs') : Wk (.agg cs) (.agg cs') := fun g w v hv => by
  simp only [R] at hv ⊢
  obtain ⟨vs, rfl, hl⟩ := hv
  exact ⟨vs, rfl, h g w _ hl⟩
theorem Wk.tuple {cs cs' : List D} (h : WkL cs cs') : Wk (.tuple cs) (.tuple cs') := fun g w v hv => by
  simp only [R] at hv ⊢
  obtain ⟨vs, rfl, hl⟩ := hv
  exact ⟨vs, rfl, h g w _ hl⟩
theorem WkC.nil : WkC [] [] := fun _ _ _ h => h
theorem WkL.nil : WkL [] [] := fun _ _ _ h => h
theorem WkL.refl (ds : List D) : WkL ds ds := fun _ _ _ h => h
theorem WkC.cons {d d' : D} {ds ds' : List D} (h : Wk d d') (k : WkC ds ds') : WkC (d :: ds) (d' :: ds') := fun g w vs hv => by
  simp only [RC] at hv ⊢
  obtain ⟨u, us, rfl, ⟨ho, hu⟩, hl⟩ := hv
  exact ⟨u, us, rfl, ⟨ho, h g w u hu⟩, k g w us hl⟩
theorem WkL.cons {d d' : D} {ds ds' : List D} (h : Wk d d') (k : WkL ds ds') : WkL (d :: ds) (d' :: ds') := fun g w vs hv => by
  simp only [RL] at hv ⊢
  obtain ⟨u, us, rfl, hu, hl⟩ := hv
  exact ⟨u, us, rfl, h g w u hu, k g w us hl⟩

theorem NextOk.mono {P : Program} {R R' : Ending → World → Prop} {r : Result Next} (h : NextOk P R r) (hr : ∀ e w, R e w → R' e w) : NextOk P R' r := by
  cases r with
  | halt h' w => exact h
  | ok n w =>
    cases n <;> simp only [NextOk] at h ⊢
    case value v => exact hr _ _ h
    case enter f args => exact CallsIn.mono h hr
    case row row args => exact RowsIn.mono h fun v w' => hr _ _
    case round l f t a b => exact RoundIn.mono h hr

theorem HRet.mono {P : Program} {g : G} {w : World} {Q Q' : D → St → Prop} (h : ∀ d σ, Q d σ → Q' d σ) (e : Ending) (w' : World) (hr : HRet P g w Q e w') : HRet P g w Q' e w' := by
  cases e <;> simp only [HRet] at hr ⊢
  obtain ⟨d, g', σ', h1, h2, h3, h4⟩ := hr
  exact ⟨d, g', σ', h1, h2, h3, h _ _ h4⟩

theorem HCalls.mono {P : Program} {f : Nat} {args : List D} {σ : St} {Q Q' : D → St → Prop} (h : HCalls P f args σ Q) (hq : ∀ d σ, Q d σ → Q' d σ) : HCalls P f args σ Q' :=
  fun g w vs hr hl => (h g w vs hr hl).mono (HRet.mono hq)

theorem HCallD.mono {P : Program} {f : D} {args : List D} {σ : St} {Q Q' : D → St → Prop} (h : HCallD P f args σ Q) (hq : ∀ d σ, Q d σ → Q' d σ) : HCallD P f args σ Q' :=
  fun g w v vs hr hd hl => let ⟨fn, cap, h1, h2⟩ := h g w v vs hr hd hl; ⟨fn, cap, h1, h2.mono (HRet.mono hq)⟩

theorem RL.append {g : G} {w : World} : ∀ {ds es : List D} {vs us : List Value}, RL g w ds vs → RL g w es us → RL g w (ds ++ es) (vs ++ us)
  | [], es, vs, us, h, h' => by simp only [RL] at h; subst h; exact h'
  | d :: ds, es, vs, us, h, h' => by
    simp only [RL] at h
    obtain ⟨u, r, rfl, hu, hl⟩ := h
    simp only [List.cons_append, RL]
    exact ⟨u, r ++ us, rfl, hu, RL.append hl h'⟩

theorem hcallD_func {P : Program} {f : Nat} {caps args : List D} {σ : St} {Q : D → St → Prop} (h : HCalls P f (args ++ caps) σ Q) : HCallD P (.func f caps) args σ Q := by
  intro g w v vs hr hd hl
  simp only [R] at hd
  obtain ⟨cv, rfl, hc⟩ := hd
  refine ⟨.func f, cv, rfl, ?_⟩
  have := h g w (vs ++ cv.toList) hr (RL.append hl hc)
  have e : (vs ++ cv.toList).toArray = vs.toArray ++ cv := by simp
  rw [e] at this
  exact this

structure Md where
  P : Program
  nt : Nat
  r : Option (Nat × Nat)
  gS : G
  wS : World

def Md.F (M : Md) : Fence := match M.r with
  | none => Fence.wide
  | some (_, l) => Fence.wide.inRound l

theorem Md.F_fn (M : Md) (f : FuncId) : M.F.fn f := by
  unfold Md.F
  split <;> exact trivial
theorem Md.F_depth (M : Md) : M.F.depth = none := by
  unfold Md.F
  split <;> rfl

theorem callsIn_F (M : Md) {n : Nat} {f : FuncId} {args : Array Value} {w : World} {R : Ending → World → Prop} (h : CallsIn Fence.wide 0 M.P f args w R) : CallsIn M.F n M.P f args w R := by
  unfold Md.F
  split
  · exact ⟨trivial, fun cs _ => h.2 cs (room_wide _)⟩
  · exact ⟨trivial, fun cs _ => h.2 cs (room_wide _)⟩
theorem rowsIn_F (M : Md) {n : Nat} {row : String} {args : Array Value} {w : World} {R : Value → World → Prop} (h : RowsIn Fence.wide 0 M.P row args w R) : RowsIn M.F n M.P row args w R := by
  unfold Md.F
  split
  · exact fun c cs _ => h c cs (room_wide _)
  · exact fun c cs _ => h c cs (room_wide _)
theorem roundIn_F (M : Md) {n l : Nat} {f : FuncId} {tmps : Array Value} {as body : Code} {w : World} {R : Ending → World → Prop} (h : RoundIn Fence.wide 0 M.P l f tmps as body w R) : RoundIn M.F n M.P l f tmps as body w R := by
  unfold Md.F
  split
  · exact ⟨trivial, fun c cs _ => h.2 c cs (room_wide _)⟩
  · exact ⟨trivial, fun c cs _ => h.2 c cs (room_wide _)⟩

def mkDef (b : Nat) : Deferred := { target := .collected b, args := #[] }

def DefsOk (n0 : Nat) (g : G) (w : World) (ds : List Deferred) : Prop :=
  ∃ bs : List Nat, ds = bs.map mkDef ∧ bs.Nodup ∧ ∀ b ∈ bs, n0 ≤ b ∧ w.heap[b]? = some (.deferred (some [])) ∧ ∀ id h, g.at_ id = some h → h.block ≠ some b

theorem DefsOk.nil (n0 : Nat) (g : G) (w : World) : DefsOk n0 g w [] := ⟨[], rfl, List.nodup_nil, fun _ h => by cases h⟩

theorem untracked_mono {g g' : G} {w w' : World} (h : E g w g' w') {b : Nat} (hb : b < w.heap.size) (hu : ∀ id k, g.at_ id = some k → k.block ≠ some b) : ∀ id k, g'.at_ id = some k → k.block ≠ some b := by
  intro id k hk hbl
  by_cases hlt : id < g.next
  · obtain ⟨k0, hk0, m⟩ := h.old id k hlt hk
    exact hu id k0 hk0 (m.block hbl hb)
  · have := h.new id k (by omega) hk b hbl
    omega

theorem DefsOk.mono {n0 : Nat} {g g' : G} {w w' : World} {ds : List Deferred} (h : E g w g' w') (hd : DefsOk n0 g w ds) : DefsOk n0 g' w' ds := by
  obtain ⟨bs, h1, h2, h3⟩ := hd
  refine ⟨bs, h1, h2, fun b hb => ?_⟩
  obtain ⟨k1, k2, k3⟩ := h3 b hb
  have hlt := lt_of_heap k2
  exact ⟨k1, by rw [h.still b hlt k3, k2], untracked_mono h hlt k3⟩

structure Rl (M : Md) (g : G) (w : World) (σ : St) (env : Env) (a : Act) : Prop where
  gs : GW M.gS M.wS
  e : E M.gS M.wS g w
  rel : Rel M.P g σ w
  er : ER g w env a.tmps
  nt : a.tmps.size = M.nt
  defs : DefsOk M.wS.heap.size g w a.defers
  rnd : ∀ id l, M.r = some (id, l) → g.at_ id = some (.loop l)

abbrev HPost := Exit → Env → St → Prop

def Out (M : Md) (Q : HPost) (e : Exit) (a : Act) (w : World) : Prop := ∃ g env σ, Rl M g w σ env a ∧ Q e env σ

def HW (M : Md) (hc : HC) (Q : HPost) (env : Env) (σ : St) : Prop :=
  ∀ c, cmpC M.P M.nt c hc = true → ∀ g w a, Rl M g w σ env a → c.wpIn M.F 0 M.P (Out M Q) a w

def HOs (M : Md) (hs : List HI) (Q : HPost) (env : Env) (σ : St) : Prop :=
  ∀ ops i, cmpOps M.P M.nt ops (ops.toList.drop i) hs = true → ∀ g w a, Rl M g w σ env a → wpOpsIn M.F 0 M.P ops (Out M Q) (List.range' i (ops.size - i)) a w

inductive It where
  | code (c : HC)
  | inBlock (id : Nat)
  | ops (l : List HI)
  | stop (I : Env → St → Prop)

def KP (M : Md) (base : HPost) : List It → HPost
  | [], e, env, σ => base e env σ
  | .code c :: k, .normal, env, σ => HW M c (KP M base k) env σ
  | .ops l :: k, .normal, env, σ => HOs M l (KP M base k) env σ
  | .stop I :: k, .normal, env, σ => I env σ
  | .inBlock id :: k, .normal, env, σ => KP M base k .normal env σ
  | .inBlock id :: k, .exit j, env, σ => if j = id then KP M base k .normal env σ else KP M base k (.exit j) env σ
  | _ :: k, e, env, σ => KP M base k e env σ

def HX (M : Md) (base : HPost) (k : List It) (env : Env) (σ : St) : Prop := KP M base k .normal env σ

section
variable {M : Md} {base : HPost} {k : List It} {env : Env} {σ : St}

theorem KP_ret (M : Md) (base : HPost) (env : Env) (σ : St) : ∀ k, KP M base k .ret env σ = base .ret env σ
  | [] => rfl
  | .code _ :: k => KP_ret M base env σ k
  | .ops _ :: k => KP_ret M base env σ k
  | .stop _ :: k => KP_ret M base env σ k
  | .inBlock _ :: k => KP_ret M base env σ k

theorem hx_nil (h : base .normal env σ) : HX M base [] env σ := h
theorem hx_stop {I : Env → St → Prop} (h : I env σ) : HX M base (.stop I :: k) env σ := h
theorem hx_inBlock {id : Nat} (h : HX M base k env σ) : HX M base (.inBlock id :: k) env σ := h

theorem hx_skip (h : HX M base k env σ) : HX M base (.code .skip :: k) env σ := by
  intro c hc g w a hr
  cases c <;> simp [cmpC] at hc
  exact wpIn_skip ⟨g, env, σ, hr, h⟩

theorem hx_seq {x y : HC} (h : HX M base (.code x :: .code y :: k) env σ) : HX M base (.code (.seq x y) :: k) env σ := by
  intro c hc g w a hr
  cases c <;> simp only [cmpC, Bool.false_eq_true, Bool.and_eq_true] at hc
  refine wpIn_seq (wpIn_mono (h _ hc.1 g w a hr) ?_)
  rintro e a' w' ⟨g', env', σ', hr', hq⟩
  cases e with
  | normal => exact hq _ hc.2 g' w' a' hr'
  | _ => exact ⟨g', env', σ', hr', hq⟩

theorem hx_block {id : Nat} {x : HC} (h : HX M base (.code x :: .inBlock id :: k) env σ) : HX M base (.code (.block id x) :: k) env σ := by
  intro c hc g w a hr
  cases c <;> simp only [cmpC, Bool.false_eq_true, Bool.and_eq_true, beq_iff_eq] at hc
  obtain ⟨rfl, hc⟩ := hc
  refine wpIn_block (wpIn_mono (h _ hc g w a hr) ?_)
  rintro e a' w' ⟨g', env', σ', hr', hq⟩
  cases e with
  | exit j =>
    simp only [KP] at hq
    simp only [Exit.inBlock]
    split
    · rename_i e; rw [if_pos e] at hq; exact ⟨g', env', σ', hr', hq⟩
    · rename_i e; rw [if_neg e] at hq; exact ⟨g', env', σ', hr', hq⟩
  | _ => exact ⟨g', env', σ', hr', hq⟩

theorem hx_cond {x : X} {t : Bool} {p q : HC} (hx : evX σ env x = .bool t) (h : HX M base (.code (if t then p else q) :: k) env σ) : HX M base (.code (.cond x p q) :: k) env σ := by
  intro c hc g w a hr
  cases c <;> simp only [cmpC, Bool.false_eq_true, Bool.and_eq_true] at hc
  have hR := evX_R hr.rel hr.er hc.1.1
  rw [hx] at hR
  simp only [R] at hR
  refine wpIn_cond hR ?_
  cases t
  · exact h _ hc.2 g w a hr
  · exact h _ hc.1.2 g w a hr

theorem hx_exit {id : Nat} (h : KP M base k (.exit id) env σ) : HX M base (.code (.exit id) :: k) env σ := by
  intro c hc g w a hr
  cases c <;> simp only [cmpC, Bool.false_eq_true, beq_iff_eq] at hc
  subst hc
  exact wpIn_exit ⟨g, env, σ, hr, h⟩

theorem hx_ret (h : base .ret env σ) : HX M base (.code .ret :: k) env σ := by
  intro c hc g w a hr
  cases c <;> simp only [cmpC, Bool.false_eq_true] at hc
  exact wpIn_ret ⟨g, env, σ, hr, by rw [KP_ret]; exact h⟩

theorem hx_ops {l : List HI} (h : HX M base (.ops l :: k) env σ) : HX M base (.code (.ops l) :: k) env σ := by
  intro c hc g w a hr
  obtain ⟨id, ops, rfl, hc⟩ : ∃ id ops, c = .region id ops false ∧ cmpOps M.P M.nt ops ops.toList l = true := by
    cases c <;> first
      | (simp [cmpC] at hc; done)
      | skip
    rename_i id ops dr
    cases dr
    · exact ⟨id, ops, rfl, hc⟩
    · cases hc
  refine wpIn_region ?_
  have := h ops 0 (by rw [List.drop_zero]; exact hc) g w a hr
  rw [List.range_eq_range']
  exact this

theorem hx_ops_nil (h : HX M base k env σ) : HX M base (.ops [] :: k) env σ := by
  intro ops i hc g w a hr
  have : ops.size - i = 0 := by
    cases hd : ops.toList.drop i with
    | nil =>
      have := congrArg List.length hd
      simpa using this
    | cons o os => rw [hd] at hc; simp [cmpOps] at hc
  rw [this]
  exact ⟨g, env, σ, hr, h⟩

theorem Rl.withEnv {g : G} {w : World} {env' : Env} {a : Act} (hr : Rl M g w σ env a) (he : ER g w env' a.tmps) : Rl M g w σ env' a :=
  ⟨hr.gs, hr.e, hr.rel, he, hr.nt, hr.defs, hr.rnd⟩

theorem hx_kill {d : Option Nat} {gd : Option (Nat × Bool)} {ts : List Nat} {l : List HI} (h : HX M base (.ops l :: k) (killsE env ts) σ) : HX M base (.ops (⟨d, gd, .kill ts⟩ :: l) :: k) env σ := by
  intro ops i hc g w a hr
  have hc' : cmpOps M.P M.nt ops (ops.toList.drop i) l = true := by
    cases hd : ops.toList.drop i <;> rw [hd] at hc <;> simp [cmpOps, isKill] at hc <;> exact hc.2
  exact h ops i hc' g w a (hr.withEnv hr.er.kills)

def putO (env : Env) (dst : Option Nat) (d : D) : Env := match dst with
  | some t => putE env t d
  | none => env

theorem Rl.put {g g' : G} {w w' : World} {σ' : St} {a : Act} {dst : Option Nat} {d : D} {v : Value} (hr : Rl M g w σ env a) (hE : E g w g' w') (hR : Rel M.P g' σ' w') (hd : R g' w' d v)
    (hdst : (match dst with | some t => decide (t < M.nt) | none => true) = true) : Rl M g' w' σ' (putO env dst d) (a.put dst v) := by
  have he := E.trans hr.gs hr.e hE
  have hrnd : ∀ id l, M.r = some (id, l) → g'.at_ id = some (.loop l) := fun id l h => hE.keep id _ (hr.rnd id l h) rfl
  cases dst with
  | none => exact ⟨hr.gs, he, hR, hr.er.mono hE hr.rel.gw, hr.nt, hr.defs.mono hE, hrnd⟩
  | some t =>
    simp only [decide_eq_true_eq] at hdst
    refine ⟨hr.gs, he, hR, fun s => ?_, by simp [Act.put, hr.nt], hr.defs.mono hE, hrnd⟩
    simp only [putO, Act.put]
    rw [look_putE]
    split
    · rename_i e
      subst e
      rw [Array.getD_eq_getD_getElem?, Array.getElem?_setIfInBounds_self_of_lt (by rw [hr.nt]; exact hdst)]
      exact hd
    · rename_i e
      rw [Array.getD_eq_getD_getElem?, Array.getElem?_setIfInBounds_ne (fun h => e h.symm), ← Array.getD_eq_getD_getElem?]
      exact R.mono hE hr.rel.gw _ _ (hr.er s)

theorem range'_step {i n : Nat} (h : i < n) : List.range' i (n - i) = i :: List.range' (i + 1) (n - (i + 1)) := by
  obtain ⟨m, hm⟩ : ∃ m, n - i = m + 1 := ⟨n - i - 1, by omega⟩
  rw [hm, List.range'_succ]
  congr 2
  omega

theorem cmpOps_cons {P : Program} {nt : Nat} {ops : Array Oper} {i : Nat} {h : HI} {hs : List HI} (hk : isKill h.op = false) (hc : cmpOps P nt ops (ops.toList.drop i) (h :: hs) = true) :
    ∃ o, i < ops.size ∧ ops[i]? = some o ∧ cmpOp P nt ops o h = true ∧ cmpOps P nt ops (ops.toList.drop (i + 1)) hs = true := by
  have hlt : i < ops.size := by
    rcases Nat.lt_or_ge i ops.size with h' | h'
    · exact h'
    · rw [List.drop_eq_nil_of_le (by simpa using h')] at hc
      simp [cmpOps, hk] at hc
  rw [List.drop_eq_getElem_cons (by simpa using hlt)] at hc
  simp only [cmpOps, hk, Bool.false_eq_true, if_false, Bool.and_eq_true] at hc
  exact ⟨ops[i], hlt, Array.getElem?_eq_getElem hlt, by simpa using hc.1, hc.2⟩

def guardB (env : Env) : Option (Nat × Bool) → Option Bool
  | none => some true
  | some (t, b) => match look env t with
    | .bool x => some (x == b)
    | .dead => some false
    | _ => none

theorem wanted_of {g : G} {w : World} {a : Act} {ops : Array Oper} {o : Oper} {h : HI} {b : Bool} (he : ER g w env a.tmps) (hc : cmpGuard ops o h = true) (hg : guardB env h.guard = some b) : Region.wanted o (yielded ops a.tmps) = b := by
  unfold cmpGuard at hc
  unfold Region.wanted
  split at hc
  · rename_i h1 h2
    rw [h2] at hg
    simp only [guardB, Option.some.injEq] at hg
    rw [h1]
    exact hg
  · rename_i j want t b' h1 h2
    simp only [Bool.and_eq_true, beq_iff_eq] at hc
    obtain ⟨rfl, hj⟩ := hc
    rw [h2] at hg
    simp only [guardB] at hg
    split at hg
    · rename_i x hx
      injection hg with hg
      have hR := he t
      rw [hx] at hR
      simp only [R] at hR
      have ht : t < a.tmps.size := by
        rcases Nat.lt_or_ge t a.tmps.size with h' | h'
        · exact h'
        · rw [Array.getD_eq_getD_getElem?, Array.getElem?_eq_none h'] at hR
          cases hR
      rw [h1]
      simp only [yielded, hj, Option.bind_some]
      have : a.tmps[t]? = some (.bool x) := by
        rw [Array.getD_eq_getD_getElem?, Array.getElem?_eq_getElem ht] at hR
        rw [Array.getElem?_eq_getElem ht]
        simpa using hR
      rw [this]
      simp only
      rw [← hg]
      cases x <;> cases want <;> rfl
    · rename_i hx
      injection hg with hg
      have hR := he t
      rw [hx] at hR
      simp only [R] at hR
      rw [h1]
      simp only [yielded, hj, Option.bind_some]
      have : ∀ bb : Bool, a.tmps[t]? ≠ some (.bool bb) := fun bb h => by
        rw [Array.getD_eq_getD_getElem?, h] at hR
        cases hR
      rw [← hg]
      split
      · rename_i bb h; exact absurd h (this bb)
      · rfl
    · cases hg
  · cases hc

end
end Go.Hl
set_option linter.unusedSectionVars false
set_option linter.unusedVariables false
namespace Go.Hl
open Go

section
variable {M : Md} {base : HPost} {k : List It} {env : Env} {σ : St}

theorem not_defer {P : Program} {nt : Nat} {ops : Array Oper} {o : Oper} {h : HI} (hc : cmpOp P nt ops o h = true) : ∀ c, o.op ≠ .defer c := by
  intro c he
  obtain ⟨dst, op, type, pos, after, guard⟩ := o
  simp only at he
  subst he
  obtain ⟨d, gd, op⟩ := h
  cases op <;> simp [cmpOp, cmpHV, cmpHS, cmpCall] at hc

theorem wpIn_value {o : Oper} {a : Act} {w w' : World} {v : Value} {next : Act → World → Prop} {Q : Exit → Act → World → Prop} (hnd : ∀ c, o.op ≠ .defer c)
    (hr : (execOp a.eval o).run M.P w = .ok (.value v) w' ∨ ((execOp a.eval o).run M.P w = .ok .skip w' ∧ v = Go.undef)) (hn : next (a.put o.dst v) w') : o.wpIn M.F 0 M.P a w next Q := by
  refine ⟨fun f _ => M.F_fn f, ?_⟩
  rw [Oper.semAt_eq _ _ _ hnd]
  rcases hr with hr | ⟨hr, rfl⟩ <;> rw [hr] <;> exact hn

theorem cmpOp_parts {P : Program} {nt : Nat} {ops : Array Oper} {o : Oper} {h : HI} (hc : cmpOp P nt ops o h = true) :
    o.dst = h.dst ∧ (match h.dst with | some t => decide (t < nt) | none => true) = true ∧ cmpGuard ops o h = true ∧
      (match h.op with | .call f args => cmpCall o f args | _ => cmpHV P o h.op || cmpHS P o h.op) = true := by
  unfold cmpOp at hc
  rw [Bool.and_eq_true, Bool.and_eq_true, Bool.and_eq_true] at hc
  exact ⟨by simpa using hc.1.1.1, hc.1.1.2, hc.1.2, hc.2⟩

theorem hx_op {h : HI} {l : List HI} {d : D} {σ' : St} {p : Prop} (hg : guardB env h.guard = some true) (hs : hstep σ (evX σ env) h.op = some (d, σ', p)) (hp : p)
    (hn : HX M base (.ops l :: k) (putO env h.dst d) σ') : HX M base (.ops (h :: l) :: k) env σ := by
  intro ops i hc g w a hr
  have hk : isKill h.op = false := by
    cases hh : h.op <;> first
      | rfl
      | (rw [hh] at hs; simp [hstep, hval] at hs)
  have hnc : ∀ f args, h.op ≠ .call f args := fun f args e => by rw [e] at hs; simp [hstep, hval] at hs
  obtain ⟨o, hlt, ho, hco, hcs⟩ := cmpOps_cons hk hc
  obtain ⟨h1, h2, h3, h4⟩ := cmpOp_parts hco
  have h4' : (cmpHV M.P o h.op || cmpHS M.P o h.op) = true := by
    split at h4
    · rename_i f args e; exact absurd e (hnc f args)
    · exact h4
  rw [range'_step hlt]
  simp only [wpOpsIn, ho]
  rw [if_pos (wanted_of hr.er h3 hg)]
  obtain ⟨v, w', g', hrun, hE, hR, hd⟩ := hstep_run hr.rel hr.er h4' hs hp
  refine wpIn_value (not_defer hco) hrun ?_
  rw [h1]
  exact hn ops (i + 1) hcs g' w' _ (hr.put hE hR hd h2)

theorem hx_op_not {h : HI} {l : List HI} (hk : isKill h.op = false) (hg : guardB env h.guard = some false)
    (hn : HX M base (.ops l :: k) (putO env h.dst .dead) σ) : HX M base (.ops (h :: l) :: k) env σ := by
  intro ops i hc g w a hr
  obtain ⟨o, hlt, ho, hco, hcs⟩ := cmpOps_cons hk hc
  obtain ⟨h1, h2, h3, h4⟩ := cmpOp_parts hco
  rw [range'_step hlt]
  simp only [wpOpsIn, ho]
  rw [if_neg (by rw [wanted_of hr.er h3 hg]; decide)]
  refine ⟨fun f _ => M.F_fn f, ?_⟩
  rw [h1]
  exact hn ops (i + 1) hcs g w _ (hr.put (E.refl g w hr.rel.gw) hr.rel (by simp only [R]) h2)

theorem uponIn_of_next {o : Oper} {a : Act} {next : Act → World → Prop} {Q : Exit → Act → World → Prop} {r : Result Next} {R : Ending → World → Prop} (h : NextOk M.P R r)
    (hr : ∀ e w, R e w → ∃ v, e = .returned v ∧ next (a.put o.dst v) w) : o.uponIn M.F 0 M.P a next Q r := by
  have hd : M.F.depth.isSome = true → 1 ≤ 0 := fun h => by rw [M.F_depth] at h; cases h
  cases r with
  | halt h' w => exact h.elim
  | ok n w =>
    cases n <;> simp only [NextOk] at h <;> simp only [Oper.uponIn]
    case value v =>
      obtain ⟨v', e, hn⟩ := hr _ _ h
      injection e with e
      subst e
      exact hn
    case enter f args =>
      refine ⟨hd, (callsIn_F M h).mono fun e w' hR => ?_⟩
      obtain ⟨v', rfl, hn⟩ := hr _ _ hR
      exact hn
    case row row args =>
      refine ⟨hd, (rowsIn_F M h).mono fun v w' hR => ?_⟩
      obtain ⟨v', e, hn⟩ := hr _ _ hR
      injection e with e
      subst e
      exact hn
    case round l f t as b =>
      refine ⟨hd, (roundIn_F M h).mono fun e w' hR => ?_⟩
      obtain ⟨v', rfl, hn⟩ := hr _ _ hR
      exact hn

theorem hx_call {dst : Option Nat} {gd : Option (Nat × Bool)} {f : X} {args : List X} {l : List HI} {Q : D → St → Prop} (hg : guardB env gd = some true)
    (hcall : HCallD M.P (evX σ env f) (args.map (evX σ env)) σ Q) (hn : ∀ d σ', Q d σ' → HX M base (.ops l :: k) (putO env dst d) σ') :
    HX M base (.ops (⟨dst, gd, .call f args⟩ :: l) :: k) env σ := by
  intro ops i hc g w a hr
  obtain ⟨o, hlt, ho, hco, hcs⟩ := cmpOps_cons rfl hc
  obtain ⟨h1, h2, h3, h4⟩ := cmpOp_parts hco
  rw [range'_step hlt]
  simp only [wpOpsIn, ho]
  rw [if_pos (wanted_of hr.er h3 hg)]
  refine ⟨fun f _ => M.F_fn f, ?_⟩
  rw [Oper.semAt_eq _ _ _ (not_defer hco)]
  obtain ⟨dst', op, type, pos, after, guard⟩ := o
  simp only at h4 h1
  unfold cmpCall at h4
  split at h4; rotate_left; · cases h4
  rename_i c hop
  split at h4; rotate_left; · cases h4
  rename_i f' hcal
  simp only at hop
  subst hop
  simp only [Bool.and_eq_true] at h4
  obtain ⟨h4, h5⟩ := h4
  obtain ⟨fn, cap, hv, hnext⟩ := hcall g w _ _ hr.rel (evX_R hr.rel hr.er h4) (evXs_RL hr.rel hr.er h5)
  have hrun : (execOp a.eval { dst := dst', op := .call c, type := type, pos := pos, after := after, guard := guard }).run M.P w = (invoke (.fn fn cap) (c.args.toList.map a.eval).toArray).run M.P w := by
    have e : #[] ++ Array.map a.eval c.args = (c.args.toList.map a.eval).toArray := by
      apply Array.ext'
      simp
    simp only [execOp, resolve, hcal, Deferred.ofValue, hv, Sem.run_bind, Sem.run_pure, Result.andThen_ok, e]
  rw [hrun]
  refine uponIn_of_next hnext ?_
  intro e w' he
  cases e <;> simp only [HRet] at he
  obtain ⟨d, g', σ', hE, hR, hd, hq⟩ := he
  refine ⟨_, rfl, ?_⟩
  simp only [h1]
  exact hn d σ' hq ops (i + 1) hcs g' w' _ (hr.put hE hR hd h2)

def leE (env' env : Env) : Prop := ∀ t, look env' t = .undef ∨ look env' t = look env t

theorem ER.le {g : G} {w : World} {env' : Env} {tmps : Array Value} (h : ER g w env tmps) (hl : leE env' env) : ER g w env' tmps := fun t => by
  rcases hl t with e | e <;> rw [e]
  · simp only [R]
  · exact h t

end
end Go.Hl
