/-
  Iterators: what a function does that calls another one for each item, and what a range over it comes to. Stores are known exactly.
-/
import Derived.Test.YtijcddlahidhhaaDoorHlM
set_option linter.unusedSectionVars false
set_option linter.unusedVariables false
namespace Go.Hl
open Go

section
variable {M : Md} {base : HPost} {k : List It} {env : Env} {σ : St}

theorem hx_know {i : It} (h : σ.wf → (∀ t, (look env t).lt σ.next) → M.gS.next ≤ σ.next → HX M base (i :: k) env σ) (hi : ∀ I, i ≠ .stop I) (hb : ∀ id, i ≠ .inBlock id) : HX M base (i :: k) env σ := by
  cases i with
  | code c => exact fun cc hc g w a hr => h hr.rel.wf (fun t => by rw [hr.rel.next]; exact R_lt hr.rel.gw _ _ (hr.er t)) (by rw [hr.rel.next]; exact hr.e.next) cc hc g w a hr
  | ops l => exact fun ops i hc g w a hr => h hr.rel.wf (fun t => by rw [hr.rel.next]; exact R_lt hr.rel.gw _ _ (hr.er t)) (by rw [hr.rel.next]; exact hr.e.next) ops i hc g w a hr
  | stop I => exact absurd rfl (hi I)
  | inBlock id => exact absurd rfl (hb id)

theorem hx_know_ops {l : List HI} (h : σ.wf → (∀ t, (look env t).lt σ.next) → M.gS.next ≤ σ.next → HX M base (.ops l :: k) env σ) : HX M base (.ops l :: k) env σ :=
  hx_know h (fun _ e => by cases e) (fun _ e => by cases e)
theorem hx_know_code {c : HC} (h : σ.wf → (∀ t, (look env t).lt σ.next) → M.gS.next ≤ σ.next → HX M base (.code c :: k) env σ) : HX M base (.code c :: k) env σ :=
  hx_know h (fun _ e => by cases e) (fun _ e => by cases e)

theorem hx_full_box {i : It} {id j sz : Nat} {cs : List D} {ot : Option Nat} (te sz' : Nat) (ho : σ.obj id = some (.bx ot cs)) (hj : cs[j]? = some (.slice .nil sz []))
    (h : HX M base (i :: k) env ((σ.new (.tok te 0)).put id (.bx ot (cs.set j (.slice (.tok σ.next) sz' []))))) (hi : ∀ I, i ≠ .stop I) (hb : ∀ id, i ≠ .inBlock id) : HX M base (i :: k) env σ := by
  have step : ∀ {g w a}, Rl M g w σ env a → Rl M (g.new (.full 0 te)) w ((σ.new (.tok te 0)).put id (.bx ot (cs.set j (.slice (.tok σ.next) sz' [])))) env a := by
    intro g w a hr
    obtain ⟨hE, hR⟩ := full_step hr.rel te
    have h0 := hr.goes hE hR
    obtain ⟨b, c, e, ha, hbk, hc, hot⟩ := hr.rel.obj id _ ho
    have hidlt := hr.rel.gw.lt id _ ha
    refine ⟨h0.gs, h0.e, ⟨hR.gw, hR.next, fun id' o ho' => ?_, hR.glob⟩, h0.er, h0.nt, h0.defs, h0.rnd⟩
    by_cases e' : id' = id
    · subst e'
      rw [St.put_same] at ho'
      injection ho' with ho'
      subst ho'
      refine ⟨b, c, e, by rw [G.new_ne _ _ (by omega)]; exact ha, hbk, RC.of_get (by rw [List.length_set]; exact hc.length) fun m d u hd hu => ?_, hot⟩
      rw [List.getElem?_set] at hd
      split at hd
      · rename_i e1
        subst e1
        split at hd; rotate_left; · cases hd
        injection hd with hd
        subst hd
        obtain ⟨u', hu', h1, h2⟩ := hc.get hj
        rw [hu] at hu'
        injection hu' with hu'
        subst hu'
        refine ⟨h1, ?_⟩
        have h2 := R.mono hE hr.rel.gw _ _ (R_size (sz' := sz') (fun _ h => by cases h) h2)
        simp only [R] at h2 ⊢
        obtain ⟨A, cap, h3, h4, h5, h6, h7⟩ := h2
        refine ⟨A, cap, h3, h4, h5, ⟨by rw [hr.rel.next]; exact Nat.lt_succ_self _, fun k hk => ?_⟩, h7⟩
        rw [hr.rel.next, G.new_same] at hk
        injection hk with hk
        subst hk
        exact ⟨Nat.le_refl _, fun _ => ⟨by rw [show A = none from h6] at h5; simp only [SliceAt] at h5; rw [h5.2]; rfl, fun _ => h6, fun a ha => by rw [h6] at ha; cases ha⟩⟩
      · obtain ⟨u', hu', h1, h2⟩ := hc.get hd
        rw [hu] at hu'
        injection hu' with hu'
        subst hu'
        exact ⟨h1, R.mono hE hr.rel.gw _ _ h2⟩
    · rw [St.put_ne _ _ e'] at ho'
      exact hR.obj id' o ho'
  cases i with
  | code c => exact fun cc hc g w a hr => h cc hc _ w a (step hr)
  | ops l => exact fun ops i hc g w a hr => h ops i hc _ w a (step hr)
  | stop I => exact absurd rfl (hi I)
  | inBlock id => exact absurd rfl (hb id)

def allE (n : Nat) (env : Env) : Env → Prop
  | [] => True
  | (t, d) :: r => (d = look env t ∧ d.lt n) ∧ allE n env r

theorem allE.mem {n : Nat} {env : Env} : ∀ {env' : Env}, allE n env env' → ∀ p ∈ env', p.2 = look env p.1 ∧ p.2.lt n
  | [], _, p, hp => by cases hp
  | (t, d) :: r, h, p, hp => by
    rcases List.mem_cons.1 hp with rfl | hp
    · exact h.1
    · exact allE.mem h.2 p hp

theorem Drop.all {n0 : Nat} {env' : Env} (hw : σ.wf) (hn : n0 ≤ σ.next) (he : allE σ.next env env') : Drop n0 env' σ env σ :=
  ⟨hn, Nat.le_refl _, hw, fun _ _ h => h, rfl, fun p hp => ⟨.inl (he.mem p hp).1, (he.mem p hp).2⟩⟩
theorem Drop.allS {n0 : Nat} {env' : Env} {σ0 : St} (hs : Sub σ0 σ) (hw : σ0.wf) (hn : n0 ≤ σ0.next) (he : allE σ0.next env env') : Drop n0 env' σ0 env σ :=
  ⟨hn, hs.next, hw, hs.obj, hs.glob, fun p hp => ⟨.inl (he.mem p hp).1, (he.mem p hp).2⟩⟩

end

theorem Own.lt_mono {n m : Nat} (h : n ≤ m) {o : Own} (ho : o.lt n) : o.lt m := by
  cases o <;> simp only [Own.lt] at ho ⊢
  omega

mutual
theorem D.lt_mono {n m : Nat} (h : n ≤ m) : ∀ (d : D), d.lt n → d.lt m
  | .ptr id off, hd => by simp only [D.lt] at hd ⊢; omega
  | .slice o sz xs, hd => by simp only [D.lt] at hd ⊢; exact ⟨Own.lt_mono h hd.1, ltX_mono h xs hd.2⟩
  | .func f caps, hd => by simp only [D.lt] at hd ⊢; exact ltL_mono h caps hd
  | .agg cs, hd => by simp only [D.lt] at hd ⊢; exact ltL_mono h cs hd
  | .tuple ds, hd => by simp only [D.lt] at hd ⊢; exact ltL_mono h ds hd
  | .iface t d, hd => by simp only [D.lt] at hd ⊢; exact D.lt_mono h d hd
  | .eptr cs off, hd => by simp only [D.lt] at hd ⊢; exact ltL_mono h cs hd
  | .undef, hd => by simp only [D.lt]
  | .dead, hd => by simp only [D.lt]
  | .bool b, hd => by simp only [D.lt]
  | .int k n, hd => by simp only [D.lt]
  | .str s, hd => by simp only [D.lt]
  | .nilp, hd => by simp only [D.lt]
  | .yld id, hd => by simp only [D.lt] at hd ⊢; omega
  | .nilf, hd => by simp only [D.lt]
  | .nili, hd => by simp only [D.lt]
  | .vec id k, hd => by simp only [D.lt] at hd ⊢; omega
  | .vptr id k sz i o, hd => by simp only [D.lt] at hd ⊢; omega
  | .sptr t xs, hd => by simp only [D.lt] at hd ⊢; exact ⟨by omega, ltX_mono h xs hd.2⟩
theorem ltL_mono {n m : Nat} (h : n ≤ m) : ∀ (ds : List D), ltL n ds → ltL m ds
  | [], hd => hd
  | d :: ds, hd => by simp only [ltL] at hd ⊢; exact ⟨D.lt_mono h d hd.1, ltL_mono h ds hd.2⟩
theorem ltX_mono {n m : Nat} (h : n ≤ m) : ∀ (xs : List (List D)), ltX n xs → ltX m xs
  | [], hd => hd
  | x :: xs, hd => by simp only [ltX] at hd ⊢; exact ⟨ltL_mono h x hd.1, ltX_mono h xs hd.2⟩
end

theorem Ob.lt_mono {n m : Nat} (h : n ≤ m) {o : Ob} (ho : o.lt n) : o.lt m := by
  cases o with
  | bx t cs => exact ltL_mono h cs ho
  | tok e n => exact trivial
  | tokF e n => exact trivial
  | vec k sz xs => exact ltX_mono h xs ho
  | loop nt env ps asg body st => exact fun t => D.lt_mono h _ (ho t)

theorem St.ext' {a b : St} (h1 : ∀ id, a.obj id = b.obj id) (h2 : a.glob = b.glob) (h3 : a.next = b.next) : a = b := by
  cases a; cases b
  simp only at h1 h2 h3
  subst h2 h3
  congr 1
  exact funext h1

def St.newAt (σ : St) (id : Nat) (o : Ob) : St := { obj := fun j => if j = id then some o else σ.obj j, glob := σ.glob, next := id + 1 }

theorem St.obj_newAt (σ : St) (id : Nat) (o : Ob) (j : Nat) : (σ.newAt id o).obj j = if j = id then some o else σ.obj j := rfl
theorem St.next_newAt (σ : St) (id : Nat) (o : Ob) : (σ.newAt id o).next = id + 1 := rfl
theorem St.obj_bump (σ : St) (j : Nat) : σ.bump.obj j = σ.obj j := rfl
theorem St.next_bump (σ : St) : σ.bump.next = σ.next + 1 := rfl

theorem St.wf.new {σ : St} (h : σ.wf) {o : Ob} (ho : o.lt (σ.next + 1)) : (σ.new o).wf where
  obj := fun id k hk => by
    simp only [St.obj_new] at hk
    split at hk
    · rename_i e
      injection hk with hk
      subst hk
      exact ⟨by rw [e]; exact Nat.lt_succ_self _, ho⟩
    · have := h.obj id k hk
      exact ⟨Nat.lt_succ_of_lt this.1, Ob.lt_mono (Nat.le_succ _) this.2⟩
  glob := fun k cs hc => ltL_mono (Nat.le_succ _) cs (h.glob k cs hc)
theorem St.wf.new2 {σ : St} (h : σ.wf) {o o2 : Ob} (ho : o.lt (σ.next + 2)) (ho2 : o2.lt (σ.next + 2)) : ((σ.new o).new o2).wf where
  obj := fun id k hk => by
    by_cases q1 : id = (σ.new o).next
    · subst q1
      rw [St.new_same] at hk
      injection hk with hk
      subst hk
      exact ⟨Nat.lt_succ_self _, ho2⟩
    · rw [St.new_ne _ _ q1] at hk
      by_cases q2 : id = σ.next
      · subst q2
        rw [St.new_same] at hk
        injection hk with hk
        subst hk
        exact ⟨by simp only [St.next_new]; omega, ho⟩
      · rw [St.new_ne _ _ q2] at hk
        have := h.obj id k hk
        exact ⟨by simp only [St.next_new]; omega, Ob.lt_mono (by simp only [St.next_new]; omega) this.2⟩
  glob := fun k cs hc => ltL_mono (by simp only [St.next_new]; omega) cs (h.glob k cs hc)
theorem St.wf.newAt {σ : St} (h : σ.wf) {id : Nat} {o : Ob} (hid : σ.next ≤ id) (ho : o.lt (id + 1)) : (σ.newAt id o).wf where
  obj := fun j k hk => by
    simp only [St.obj_newAt] at hk
    split at hk
    · rename_i e
      injection hk with hk
      subst hk
      exact ⟨by rw [e]; exact Nat.lt_succ_self _, ho⟩
    · have := h.obj j k hk
      exact ⟨by rw [St.next_newAt]; omega, Ob.lt_mono (by rw [St.next_newAt]; omega) this.2⟩
  glob := fun k cs hc => ltL_mono (by rw [St.next_newAt]; omega) cs (h.glob k cs hc)
theorem St.wf.put {σ : St} (h : σ.wf) {id : Nat} {o : Ob} (hid : id < σ.next) (ho : o.lt σ.next) : (σ.put id o).wf where
  obj := fun j k hk => by
    simp only [St.obj_put] at hk
    split at hk
    · rename_i e
      injection hk with hk
      subst hk
      exact ⟨by rw [e]; exact hid, ho⟩
    · exact h.obj j k hk
  glob := fun k cs hc => h.glob k cs hc
theorem St.wf.bump {σ : St} (h : σ.wf) : σ.bump.wf where
  obj := fun j k hk => ⟨Nat.lt_succ_of_lt (h.obj j k hk).1, Ob.lt_mono (Nat.le_succ _) (h.obj j k hk).2⟩
  glob := fun k cs hc => ltL_mono (Nat.le_succ _) cs (h.glob k cs hc)
theorem St.wf.box {σ : St} (h : σ.wf) {cs : List D} (ho : ltL (σ.next + 1) cs) : (σ.new (.box cs)).wf := h.new ho
theorem St.wf.tok {σ : St} (h : σ.wf) {e n : Nat} : (σ.new (.tok e n)).wf := h.new trivial
theorem St.wf.bx {σ : St} (h : σ.wf) {t : Option Nat} {cs : List D} (ho : ltL (σ.next + 1) cs) : (σ.new (.bx t cs)).wf := h.new ho
theorem St.wf.top {σ : St} (h : σ.wf) {id : Nat} (hl : σ.next ≤ id) : σ.obj id = none := by
  cases ho : σ.obj id with
  | none => rfl
  | some o => have := (h.obj id o ho).1; omega

theorem St.put_new (σ : St) (o : Ob) (id : Nat) (o' : Ob) : (σ.new o).put id o' = if id = σ.next then σ.new o' else (σ.put id o').new o := by
  split
  · rename_i e
    subst e
    refine St.ext' (fun j => ?_) rfl rfl
    simp only [St.obj_put, St.obj_new]
    split <;> rfl
  · rename_i e
    refine St.ext' (fun j => ?_) rfl rfl
    simp only [St.obj_put, St.obj_new, St.next_put]
    by_cases h : j = id
    · subst h; simp [e]
    · simp [h]
theorem St.put_newAt (σ : St) (k : Nat) (o : Ob) (id : Nat) (o' : Ob) : (σ.newAt k o).put id o' = if id = k then σ.newAt k o' else (σ.put id o').newAt k o := by
  split
  · rename_i e
    subst e
    refine St.ext' (fun j => ?_) rfl rfl
    simp only [St.obj_put, St.obj_newAt]
    split <;> rfl
  · rename_i e
    refine St.ext' (fun j => ?_) rfl rfl
    simp only [St.obj_put, St.obj_newAt]
    by_cases h : j = id
    · subst h; simp [e]
    · simp [h]
theorem St.put_put (σ : St) (id : Nat) (o o' : Ob) : (σ.put id o).put id o' = σ.put id o' := by
  refine St.ext' (fun j => ?_) rfl rfl
  simp only [St.obj_put]
  split <;> rfl
theorem St.put_bump (σ : St) (id : Nat) (o : Ob) : σ.bump.put id o = (σ.put id o).bump := rfl

def mix (N : Nat) (A τ : St) : St := { obj := fun id => if id < N then A.obj id else τ.obj id, glob := τ.glob, next := τ.next }

theorem mix_obj (N : Nat) (A τ : St) (id : Nat) : (mix N A τ).obj id = if id < N then A.obj id else τ.obj id := rfl
theorem mix_next (N : Nat) (A τ : St) : (mix N A τ).next = τ.next := rfl
theorem mix_lt {N : Nat} {A τ : St} {id : Nat} (h : id < N) : (mix N A τ).obj id = A.obj id := if_pos h
theorem mix_new {N : Nat} {A τ : St} {o : Ob} (h : N ≤ τ.next) : (mix N A τ).new o = mix N A (τ.new o) := by
  refine St.ext' (fun j => ?_) rfl rfl
  simp only [St.obj_new, mix_obj, mix_next]
  by_cases e : j = τ.next
  · subst e; simp [Nat.not_lt.2 h]
  · simp [e]
theorem mix_put_lt {N : Nat} {A τ : St} {id : Nat} {o : Ob} (h : id < N) : (mix N A τ).put id o = mix N (A.put id o) τ := by
  refine St.ext' (fun j => ?_) rfl rfl
  simp only [St.obj_put, mix_obj]
  by_cases e : j = id
  · subst e; simp [h]
  · simp [e]
theorem mix_put_ge {N : Nat} {A τ : St} {id : Nat} {o : Ob} (h : N ≤ id) : (mix N A τ).put id o = mix N A (τ.put id o) := by
  refine St.ext' (fun j => ?_) rfl rfl
  simp only [St.obj_put, mix_obj]
  by_cases e : j = id
  · subst e; simp [Nat.not_lt.2 h]
  · simp [e]
theorem mix_put (N : Nat) (A τ : St) (id : Nat) (o : Ob) : (mix N A τ).put id o = if id < N then mix N (A.put id o) τ else mix N A (τ.put id o) := by
  split
  · rename_i h; exact mix_put_lt h
  · rename_i h; exact mix_put_ge (Nat.not_lt.1 h)
theorem mix_up {N : Nat} {A B : St} (ha : A.wf) (hb : B.wf) (hna : A.next = N) (hnb : B.next = N) (hg : A.glob = B.glob) : mix N A B = A := by
  refine St.ext' (fun j => ?_) hg.symm (hnb.trans hna.symm)
  simp only [mix_obj]
  split
  · rfl
  · rename_i h
    rw [ha.top (by omega), hb.top (by omega)]

structure Low (N : Nat) (A τ : St) : Prop where
  next : N ≤ τ.next
  obj : ∀ id, id < N → τ.obj id = A.obj id
  glob : τ.glob = A.glob

theorem Low.eq {N : Nat} {A τ : St} (h : Low N A τ) : mix N A τ = τ := by
  refine St.ext' (fun j => ?_) rfl rfl
  simp only [mix_obj]
  split
  · rename_i hl; exact (h.obj j hl).symm
  · rfl
theorem Low.refl {N : Nat} {A : St} (h : A.next = N) : Low N A A := ⟨by omega, fun _ _ => rfl, rfl⟩
theorem Low.new {N : Nat} {A τ : St} (h : Low N A τ) (o : Ob) : Low N A (τ.new o) :=
  ⟨Nat.le_succ_of_le h.next, fun id hl => by have := h.next; rw [St.new_ne _ _ (by omega)]; exact h.obj id hl, h.glob⟩
theorem Low.newAt {N : Nat} {A τ : St} (h : Low N A τ) {id : Nat} (hid : N ≤ id) (o : Ob) : Low N A (τ.newAt id o) :=
  ⟨by rw [St.next_newAt]; omega, fun j hl => by rw [St.obj_newAt, if_neg (by omega)]; exact h.obj j hl, h.glob⟩
theorem Low.put {N : Nat} {A τ : St} (h : Low N A τ) {id : Nat} (hid : N ≤ id) (o : Ob) : Low N A (τ.put id o) :=
  ⟨h.next, fun j hl => by rw [St.obj_put, if_neg (by omega)]; exact h.obj j hl, h.glob⟩
theorem Low.bump {N : Nat} {A τ : St} (h : Low N A τ) : Low N A τ.bump := ⟨Nat.le_succ_of_le h.next, h.obj, h.glob⟩
theorem Low.mix {N : Nat} {A B τ : St} (h : N ≤ τ.next) (hg : τ.glob = A.glob) : Low N A (mix N A τ) := ⟨h, fun id hl => mix_lt hl, hg⟩

theorem St.wf.mix {N : Nat} {A τ : St} (ha : A.wf) (ht : τ.wf) (hna : A.next ≤ N) (h : N ≤ τ.next) : (mix N A τ).wf where
  obj := fun id o ho => by
    simp only [mix_obj] at ho
    split at ho
    · have := ha.obj id o ho
      exact ⟨by rw [mix_next]; omega, Ob.lt_mono (by rw [mix_next]; omega) this.2⟩
    · exact ht.obj id o ho
  glob := ht.glob

structure Ext (τ τ' : St) : Prop where
  next : τ.next ≤ τ'.next
  obj : ∀ id, id < τ.next → τ'.obj id = τ.obj id
  glob : τ'.glob = τ.glob

theorem Ext.refl (τ : St) : Ext τ τ := ⟨Nat.le_refl _, fun _ _ => rfl, rfl⟩
theorem Ext.new {τ τ' : St} (h : Ext τ τ') (o : Ob) : Ext τ (τ'.new o) :=
  ⟨Nat.le_succ_of_le h.next, fun id hl => by have := h.next; rw [St.new_ne _ _ (by omega)]; exact h.obj id hl, h.glob⟩
theorem Ext.newAt {τ τ' : St} (h : Ext τ τ') {id : Nat} (hid : τ.next ≤ id) (o : Ob) : Ext τ (τ'.newAt id o) :=
  ⟨by rw [St.next_newAt]; omega, fun j hl => by rw [St.obj_newAt, if_neg (by omega)]; exact h.obj j hl, h.glob⟩
theorem Ext.put {τ τ' : St} (h : Ext τ τ') {id : Nat} (hid : τ.next ≤ id) (o : Ob) : Ext τ (τ'.put id o) :=
  ⟨h.next, fun j hl => by rw [St.obj_put, if_neg (by omega)]; exact h.obj j hl, h.glob⟩
theorem Ext.bump {τ τ' : St} (h : Ext τ τ') : Ext τ τ'.bump := ⟨Nat.le_succ_of_le h.next, h.obj, h.glob⟩
theorem Ext.sub {τ τ' : St} (hw : τ.wf) (h : Ext τ τ') : Sub τ τ' := ⟨h.next, fun id o ho => by rw [h.obj id (hw.obj id o ho).1]; exact ho, h.glob.symm⟩

theorem Drop.mix {N : Nat} {A τ τ' : St} {env : Env} (ha : A.wf) (ht : τ.wf) (hna : A.next ≤ N) (h : N ≤ τ.next) (hx : Ext τ τ') : Drop τ.next [] (mix N A τ) env (mix N A τ') where
  n0 := Nat.le_refl _
  next := hx.next
  wf := ha.mix ht hna h
  same := fun id o ho => by
    simp only [mix_obj] at ho ⊢
    split at ho
    · rename_i hl; rw [if_pos hl]; exact ho
    · rename_i hl; rw [if_neg hl, hx.obj id (ht.obj id o ho).1]; exact ho
  glob := hx.glob.symm
  env := fun _ h => by cases h

structure Tk (X : Type) where
  C : Type
  N : Nat
  T : C → St
  ok : C → X → Prop
  step : C → X → C × Bool
  next : ∀ c, (T c).next = N
  glob : ∀ c c', (T c).glob = (T c').glob
  wf : ∀ c, (T c).wf

namespace Tk
variable {X : Type} (tk : Tk X)

def run : tk.C → List X → tk.C × Bool
  | c, [] => (c, true)
  | c, x :: xs => if (tk.step c x).2 then run (tk.step c x).1 xs else ((tk.step c x).1, false)

def oks : tk.C → List X → Prop
  | _, [] => True
  | c, x :: xs => tk.ok c x ∧ ((tk.step c x).2 = true → oks (tk.step c x).1 xs)

structure Takes (P : Program) (enc : X → List D) (y : D) : Prop where
  lt : y.lt tk.N
  one : cellsD y = some [y]
  call : ∀ c x τ, Low tk.N (tk.T c) τ → tk.ok c x → HCallD P y (enc x) τ fun d σ' => d = .bool (tk.step c x).2 ∧ σ' = mix tk.N (tk.T (tk.step c x).1) τ

variable {tk}
theorem mixT (c c' : tk.C) : mix tk.N (tk.T c) (tk.T c') = tk.T c := mix_up (tk.wf c) (tk.wf c') (tk.next c) (tk.next c') (tk.glob c c')
theorem low (c : tk.C) : Low tk.N (tk.T c) (tk.T c) := Low.refl (tk.next c)

theorem run_true {c : tk.C} {x : X} {xs : List X} (h : (tk.step c x).2 = true) : tk.run c (x :: xs) = tk.run (tk.step c x).1 xs := by simp only [run]; rw [if_pos h]
theorem run_false {c : tk.C} {x : X} {xs : List X} (h : (tk.step c x).2 = false) : tk.run c (x :: xs) = ((tk.step c x).1, false) := by simp only [run]; rw [if_neg (by rw [h]; decide)]

end Tk

def Iter (P : Program) (f : Nat) (A : D → List D) {X : Type} (enc : X → List D) (xs : List X) : Prop :=
  ∀ (tk : Tk X) (c : tk.C) (y : D), tk.oks c xs → tk.Takes P enc y → HCalls P f (A y) (tk.T c) fun _ σ' => σ' = tk.T (tk.run c xs).1

def rngRun {C X : Type} (step : C → X → C × Option HC) : C → List X → C × Option HC
  | c, [] => (c, none)
  | c, x :: xs => match (step c x).2 with
    | none => rngRun step (step c x).1 xs
    | some j => ((step c x).1, some j)
def rngOks {C X : Type} (ok : C → X → Prop) (step : C → X → C × Option HC) : C → List X → Prop
  | _, [] => True
  | c, x :: xs => ok c x ∧ ((step c x).2 = none → rngOks ok step (step c x).1 xs)

def LSt.ofJump : Option HC → LSt
  | none => .ready
  | some j => .done j

def rngTk {C X : Type} (S : C → St) (n : Nat) (nt : Nat) (env : Env) (ps : List Nat) (asg body : HC) (ok : C → X → Prop) (step : C → X → C × Option HC) (hnext : ∀ c, (S c).next = n)
    (hglob : ∀ c c', (S c).glob = (S c').glob) (hwf : ∀ c, (S c).wf) (he : ∀ t, (look env t).lt n) : Tk X where
  C := C × LSt
  N := n + 1
  T c := (S c.1).new (.loop nt env ps asg body c.2)
  ok c x := c.2 = .ready ∧ ok c.1 x
  step c x := (((step c.1 x).1, .ofJump (step c.1 x).2), (step c.1 x).2.isNone)
  next c := by rw [St.next_new, hnext]
  glob c c' := hglob c.1 c'.1
  wf c := (hwf c.1).new (fun t => D.lt_mono (by rw [hnext]; exact Nat.le_succ _) _ (he t))

section
variable {C X : Type} {S : C → St} {n : Nat} {nt : Nat} {env : Env} {ps : List Nat} {asg body : HC} {ok : C → X → Prop} {step : C → X → C × Option HC} {hnext : ∀ c, (S c).next = n}
    {hglob : ∀ c c', (S c).glob = (S c').glob} {hwf : ∀ c, (S c).wf} {he : ∀ t, (look env t).lt n}

theorem rngTk_run : ∀ (xs : List X) (c : C), ((rngTk S n nt env ps asg body ok step hnext hglob hwf he).run (c, .ready) xs).1 = ((rngRun step c xs).1, .ofJump (rngRun step c xs).2)
  | [], c => rfl
  | x :: xs, c => by
    cases h : (step c x).2 with
    | none =>
      have h1 : ((rngTk S n nt env ps asg body ok step hnext hglob hwf he).step (c, .ready) x) = (((step c x).1, .ready), true) := by simp only [rngTk, h]; rfl
      rw [Tk.run_true (tk := rngTk S n nt env ps asg body ok step hnext hglob hwf he) (c := (c, LSt.ready)) (by rw [h1]), h1]
      simp only [rngRun, h]
      exact rngTk_run xs _
    | some j =>
      have h1 : ((rngTk S n nt env ps asg body ok step hnext hglob hwf he).step (c, .ready) x) = (((step c x).1, .done j), false) := by simp only [rngTk, h]; rfl
      rw [Tk.run_false (tk := rngTk S n nt env ps asg body ok step hnext hglob hwf he) (c := (c, LSt.ready)) (by rw [h1]), h1]
      simp only [rngRun, h, LSt.ofJump]
      rfl

theorem rngTk_oks : ∀ (xs : List X) (c : C), rngOks ok step c xs → (rngTk S n nt env ps asg body ok step hnext hglob hwf he).oks (c, .ready) xs
  | [], c, _ => trivial
  | x :: xs, c, h => ⟨⟨rfl, h.1⟩, fun hb => by
      have hn : (step c x).2 = none := by
        have : (step c x).2.isNone = true := hb
        simpa using this
      have h1 : ((rngTk S n nt env ps asg body ok step hnext hglob hwf he).step (c, .ready) x).1 = ((step c x).1, .ready) := by simp only [rngTk, hn]; rfl
      rw [h1]
      exact rngTk_oks xs _ (h.2 hn)⟩

end

section
variable {M : Md} {base : HPost} {k : List It} {env : Env} {σ : St}

def RangeEnd (M : Md) (base : HPost) (k : List It) (env : Env) (σ : St) : Option HC → Prop
  | none => HX M base k env σ
  | some j => HX M base (.code j :: k) env σ

def Round (P : Program) (nt id : Nat) (env : Env) (ps : List Nat) (asg body : HC) (args : List D) (τ : St) (K : D → St → Prop) : Prop :=
  ∀ M' : Md, M'.P = P → M'.nt = nt → (∃ l, M'.r = some (id, l)) → M'.gS.next = τ.next → τ.wf → ltL τ.next args →
      HX M' (fun _ _ _ => False) [.code asg, .stop fun env1 σ1 => σ1.obj id = some (.loop nt env ps asg body .ready) ∧ HX M' (RPost τ.next nt id env ps asg body K) [.code body] env1 (σ1.put id (.loop nt env ps asg body .busy))] (putsE env ps args) τ

theorem resD_cell {σ : St} {env : Env} {t id : Nat} {d : D} {hs : List HR} {ds : List D} {p : Prop} (h : look env t = .ptr id 0) (h2 : σ.obj id = some (.box [d])) (h3 : resD σ env hs = some (ds, p)) :
    resD σ env (.cell t none :: hs) = some (d :: ds, (0 < 1) ∧ p) := by
  simp only [resD, hval, evX, h, h2, rdD, h3]
  rfl
theorem resD_cellS {σ : St} {env : Env} {t id n : Nat} {ot : Option Nat} {cs : List D} {hs : List HR} {ds : List D} {p : Prop} (h : look env t = .ptr id 0) (h2 : σ.obj id = some (.bx ot cs)) (hn : cs.length = n) (h3 : resD σ env hs = some (ds, p)) :
    resD σ env (.cell t (some n) :: hs) = some (.agg cs :: ds, (0 + n ≤ cs.length) ∧ p) := by
  simp only [resD, hval, evX, h, h2, rdD, h3]
  simp [hn]
theorem resD_nil {σ : St} {env : Env} : resD σ env [] = some ([], True) := rfl

theorem round_end {n nt : Nat} {env env' : Env} {ps : List Nat} {asg body : HC} {A B τ τ' : St} {e : Exit} (j : Option HC) (hj : match e, j with | .normal, none => True | .ret, some .ret => True | .exit i, some (.exit i') => i = i' | _, _ => False)
    (hAB : A = B) (hn : A.next = n) (hwf : B.wf) (he : ∀ t, (look env t).lt n) (hτ : τ.wf) (hle : n + 1 ≤ τ.next) (hx : Ext τ τ') :
    RPost τ.next nt n env ps asg body (fun d σ' => d = .bool j.isNone ∧ σ' = mix (n + 1) (B.new (.loop nt env ps asg body (.ofJump j))) τ) e env' (mix (n + 1) (A.new (.loop nt env ps asg body .busy)) τ') := by
  subst hAB
  subst hn
  refine ⟨by rw [mix_lt (Nat.lt_succ_self _), St.new_same], ?_⟩
  have key : ∀ st, ∃ σ', Drop τ.next [] σ' env' ((mix (A.next + 1) (A.new (.loop nt env ps asg body .busy)) τ').put A.next (.loop nt env ps asg body st)) ∧ σ' = mix (A.next + 1) (A.new (.loop nt env ps asg body st)) τ := fun st => by
    rw [mix_put_lt (Nat.lt_succ_self _), St.put_new, if_pos rfl]
    exact ⟨_, Drop.mix (hwf.new (fun t => D.lt_mono (Nat.le_succ _) _ (he t))) hτ (Nat.le_refl _) hle hx, rfl⟩
  cases e <;> cases j <;> first
    | exact hj.elim
    | skip
  · exact fun _ _ => let ⟨σ', h1, h2⟩ := key .ready; ⟨σ', h1, rfl, h2⟩
  · rename_i i j
    cases j <;> first
      | exact hj.elim
      | (simp only at hj; subst hj; exact fun _ _ => let ⟨σ', h1, h2⟩ := key _; ⟨σ', h1, rfl, h2⟩)
  · rename_i j
    cases j <;> first
      | exact hj.elim
      | exact fun _ _ => let ⟨σ', h1, h2⟩ := key _; ⟨σ', h1, rfl, h2⟩

theorem round_next {n nt : Nat} {env env' : Env} {ps : List Nat} {asg body : HC} {A B τ τ' : St}
    (hAB : A = B) (hn : A.next = n) (hwf : B.wf) (he : ∀ t, (look env t).lt n) (hτ : τ.wf) (hle : n + 1 ≤ τ.next) (hx : Ext τ τ') :
    RPost τ.next nt n env ps asg body (fun d σ' => d = .bool true ∧ σ' = mix (n + 1) (B.new (.loop nt env ps asg body .ready)) τ) .normal env' (mix (n + 1) (A.new (.loop nt env ps asg body .busy)) τ') :=
  round_end (e := .normal) none trivial hAB hn hwf he hτ hle hx
theorem round_ret {n nt : Nat} {env env' : Env} {ps : List Nat} {asg body : HC} {A B τ τ' : St}
    (hAB : A = B) (hn : A.next = n) (hwf : B.wf) (he : ∀ t, (look env t).lt n) (hτ : τ.wf) (hle : n + 1 ≤ τ.next) (hx : Ext τ τ') :
    RPost τ.next nt n env ps asg body (fun d σ' => d = .bool false ∧ σ' = mix (n + 1) (B.new (.loop nt env ps asg body (.done .ret))) τ) .ret env' (mix (n + 1) (A.new (.loop nt env ps asg body .busy)) τ') :=
  round_end (e := .ret) (some .ret) trivial hAB hn hwf he hτ hle hx

end
end Go.Hl
