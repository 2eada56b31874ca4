/-
  Layer 6: plain laws: a name in place of a name, all tokens.
-/
import Derived.Test.YteffbibilpbhjaaDoorLxL
set_option linter.unusedSectionVars false
set_option linter.unusedVariables false
set_option linter.unusedSimpArgs false
set_option maxRecDepth 100000
namespace Go.Hl
open Go Go.Proofs Go.RowKit

theorem ins_blk {b : UInt8} (h : insP b = true) : isBlk b = false := (ins_not h).2.2.2.2

theorem lexN_nm {nm post : List UInt8} (hn : NmOk nm) (hp : EndOk post) : lexN (nm ++ post) = (4, nm.length) := by
  have hd : (nm ++ post).headD 0 = nm.headD 0 := head_app hn.ne
  have hi : insP ((nm ++ post).headD 0) = true := by
    rw [hd]
    obtain ⟨c, t, hc⟩ := List.exists_cons_of_ne_nil hn.ne
    exact hn.ins _ (by rw [hc]; exact List.mem_cons_self ..)
  have h47 := ins_47 hi
  have hpr : prnd (nm ++ post) = false := by
    cases hc : prnd (nm ++ post) with
    | false => rfl
    | true =>
      exfalso
      obtain ⟨r, hr, _⟩ := prnd_parts hc
      exact hn.n1 (word_is (e := sysL) (r := [46, 111, 117, 116, 46, 112, 114, 105, 110, 116, 108, 110] ++ r) hn.ins hp (by decide) (.inr (by show insP 46 = false; decide)) hr)
  have hr := (run_app insP nm post).2 ⟨hn.ins, hp⟩
  rw [lexN_wd (ins_blk hi) (ne_pre2 h47) (ne_pre2 h47) hpr hi, hr, List.take_left, hn.kd]

theorem lexN_four {l : List UInt8} (h : (lexN l).1 = 4) : insP (l.headD 0) = true ∧ (lexN l).2 = runTo insP l := by
  cases hb : isBlk (l.headD 0)
  case true => rw [lexN_blk hb] at h; simp at h
  cases h1 : ([47, 47] : List UInt8).isPrefixOf l
  case true => rw [lexN_ln hb h1] at h; simp at h
  cases h3 : ([47, 42] : List UInt8).isPrefixOf l
  case true =>
    rw [lexN_cm hb h1 h3] at h
    split at h <;> simp at h
  cases h4 : prnd l
  case true => rw [lexN_pr hb h1 h3 h4] at h; simp at h
  cases h5 : insP (l.headD 0)
  case true => rw [lexN_wd hb h1 h3 h4 h5]; exact ⟨rfl, rfl⟩
  cases h6 : ([38, 38] : List UInt8).isPrefixOf l
  case true => rw [lexN_am hb h1 h3 h4 h5 h6] at h; simp at h
  rw [lexN_sg hb h1 h3 h4 h5 h6] at h
  split at h <;> simp at h

theorem ren {nm : List UInt8} (hn : NmOk nm) : ∀ (j : Nat) (l : List UInt8) (a : Nat) (h : j < (toks l a).length), ((toks l a)[j]).k = 4 →
    ∃ pre w post, l = pre ++ (w ++ post) ∧ w ≠ [] ∧ (∀ c ∈ w, insP c = true) ∧ EndOk post ∧ (∀ (hp : pre ≠ []), insP (pre.getLast hp) = false) ∧
      (toks l a)[j] = ⟨4, a + pre.length, a + pre.length + w.length⟩ ∧ (toks l a).drop (j + 1) = toks post (a + pre.length + w.length) ∧
      toks (pre ++ (nm ++ post)) a = (toks l a).take j ++ ⟨4, a + pre.length, a + pre.length + nm.length⟩ :: toks post (a + pre.length + nm.length)
  | 0, l, a, h, h4 => by
    have hl : l ≠ [] := by rintro rfl; simp [toks_nil] at h
    have hc := toks_cons l a hl
    have h1 := lexN_len l hl
    simp only [hc, List.getElem_cons_zero] at h4 ⊢
    obtain ⟨hi, hr⟩ := lexN_four h4
    have hln : (l.take (lexN l).2).length = (lexN l).2 := by rw [List.length_take, Nat.min_eq_left h1.2]
    have happ : l.take (lexN l).2 ++ l.drop (lexN l).2 = l := List.take_append_drop _ _
    have hrun := (run_app insP (l.take (lexN l).2) (l.drop (lexN l).2)).1 (by rw [happ, hln, hr])
    refine ⟨[], l.take (lexN l).2, l.drop (lexN l).2, by rw [List.nil_append, happ], ?_, hrun.1, hrun.2, fun hp => absurd rfl hp, ?_, ?_, ?_⟩
    · intro e
      rw [e] at hln
      simp only [List.length_nil] at hln
      omega
    · rw [hln, h4]
      rfl
    · rw [hln]
      rfl
    · have hne : nm ++ l.drop (lexN l).2 ≠ [] := fun e => hn.ne (List.append_eq_nil_iff.1 e).1
      rw [List.nil_append, toks_cons _ _ hne, lexN_nm hn hrun.2]
      simp only [List.drop_left, List.length_nil, Nat.add_zero, List.take_zero, List.nil_append]
  | j + 1, l, a, h, h4 => by
    have hl : l ≠ [] := by rintro rfl; simp [toks_nil] at h
    have hc := toks_cons l a hl
    have h1 := lexN_len l hl
    simp only [hc, List.getElem_cons_succ, List.drop_succ_cons, List.take_succ_cons, List.length_cons] at h h4 ⊢
    obtain ⟨pre, w, post, e1, e2, e3, e4, e5, e6, e7, e8⟩ := ren hn j (l.drop (lexN l).2) (a + (lexN l).2) (by omega) h4
    have hln : (l.take (lexN l).2).length = (lexN l).2 := by rw [List.length_take, Nat.min_eq_left h1.2]
    have happ : l.take (lexN l).2 ++ l.drop (lexN l).2 = l := List.take_append_drop _ _
    generalize hq : l.take (lexN l).2 = q at *
    have hqn : q ≠ [] := by
      rintro rfl
      simp only [List.length_nil] at hln
      omega
    have hlq : l = q ++ (pre ++ (w ++ post)) := by rw [← e1, happ]
    have hxn : pre ++ (w ++ post) ≠ [] := fun e => e2 (List.append_eq_nil_iff.1 (List.append_eq_nil_iff.1 e).2).1
    have hyn : pre ++ (nm ++ post) ≠ [] := fun e => hn.ne (List.append_eq_nil_iff.1 (List.append_eq_nil_iff.1 e).2).1
    have hwi : insP ((w ++ post).headD 0) = true := by
      rw [head_app e2]
      obtain ⟨c, t, hc⟩ := List.exists_cons_of_ne_nil e2
      exact e3 _ (by rw [hc]; exact List.mem_cons_self ..)
    have hni : insP ((nm ++ post).headD 0) = true := by
      rw [head_app hn.ne]
      obtain ⟨c, t, hc⟩ := List.exists_cons_of_ne_nil hn.ne
      exact hn.ins _ (by rw [hc]; exact List.mem_cons_self ..)
    have hlex : (lexN (q ++ (pre ++ (w ++ post)))).2 = q.length := by rw [← hlq, hln]
    have hh : HdOk (pre ++ (w ++ post)) (pre ++ (nm ++ post)) := by
      refine ⟨hxn, hyn, ?_⟩
      by_cases hp : pre = []
      · subst hp
        exact .inr ⟨hwi, hni⟩
      · exact .inl (by rw [head_app hp, head_app hp])
    have hun : q ++ pre ≠ [] := fun e => hqn (List.append_eq_nil_iff.1 e).1
    have hul : insP ((q ++ pre).getLast hun) = false := by
      by_cases hp : pre = []
      · subst hp
        simp only [List.append_nil]
        exact lexN_last q (w ++ post) hqn (fun e => e2 (List.append_eq_nil_iff.1 e).1) hwi hlex
      · rw [List.getLast_append_of_ne_nil _ hp]
        exact e5 hp
    have hsw := lexN_swap q _ _ hqn hh (fun hp => by
      rw [← List.append_assoc] at hp ⊢
      exact prnd_ren hun hul hn e4 hp) hlex
    have hz : a + (lexN l).2 + pre.length = a + (q ++ pre).length := by rw [List.length_append, hln]; omega
    refine ⟨q ++ pre, w, post, by rw [List.append_assoc]; exact hlq, e2, e3, e4, fun _ => hul, ?_, ?_, ?_⟩
    · rw [e6, hz]
    · rw [e7, hz]
    · have hne : q ++ (pre ++ (nm ++ post)) ≠ [] := fun e => hqn (List.append_eq_nil_iff.1 e).1
      rw [List.append_assoc, toks_cons _ _ hne, hsw, ← hlq, ← hln, List.drop_left, hln, e8, hz]
      rfl

theorem toks_shift : ∀ (n : Nat) (l : List UInt8) (a d : Nat), l.length ≤ n → toks l (a + d) = (toks l a).map fun x => ⟨x.k, x.f + d, x.t + d⟩
  | 0, l, a, d, h => by
    have : l = [] := List.length_eq_zero_iff.1 (by omega)
    subst this
    rfl
  | n + 1, l, a, d, h => by
    by_cases hl : l = []
    · subst hl; rfl
    · have h1 := lexN_len l hl
      rw [toks_cons l _ hl, toks_cons l a hl, List.map_cons, ← toks_shift n _ _ d (by rw [List.length_drop]; omega)]
      have e1 : a + d + (lexN l).2 = a + (lexN l).2 + d := by omega
      rw [e1]

theorem renS (s nm : ByteArray) (hn : NmOk nm.data.toList) (k : Nat) (h : k < (toks s.data.toList 0).length) (h4 : ((toks s.data.toList 0)[k]).k = 4) :
    ∃ (f t : Nat) (P : List Tk3), (toks s.data.toList 0)[k] = ⟨4, f, t⟩ ∧ f < t ∧ t ≤ s.size ∧ (toks s.data.toList 0).drop (k + 1) = P.map (fun x => ⟨x.k, x.f + t, x.t + t⟩) ∧
      toks ((s.extract 0 f ++ nm) ++ s.extract t s.size).data.toList 0 = (toks s.data.toList 0).take k ++ ⟨4, f, f + nm.size⟩ :: P.map (fun x => ⟨x.k, x.f + (f + nm.size), x.t + (f + nm.size)⟩) := by
  obtain ⟨pre, w, post, e1, e2, e3, e4, e5, e6, e7, e8⟩ := ren hn k s.data.toList 0 h h4
  simp only [Nat.zero_add] at e6 e7 e8
  have hlen := congrArg List.length e1
  rw [len_list] at hlen
  simp only [List.length_append] at hlen
  have hwl := List.length_pos_iff.2 e2
  refine ⟨pre.length, pre.length + w.length, toks post 0, e6, by omega, by omega, ?_, ?_⟩
  · rw [e7]
    have := toks_shift post.length post 0 (pre.length + w.length) (Nat.le_refl _)
    rwa [Nat.zero_add] at this
  · have e : ((s.extract 0 pre.length ++ nm) ++ s.extract (pre.length + w.length) s.size).data.toList = pre ++ (nm.data.toList ++ post) := by
      have h1 : (s.extract 0 pre.length).data.toList = pre := by
        rw [ex_take, e1]
        simp
      have h2 := ex_drop s (pre.length + w.length)
      rw [e1] at h2
      rw [← List.append_assoc, ← List.length_append, List.drop_left] at h2
      simp only [ByteArray.data_append, Array.toList_append, h1]
      rw [List.length_append] at h2
      rw [h2, List.append_assoc]
    rw [e, e8, len_list]
    have := toks_shift post.length post 0 (pre.length + nm.size) (Nat.le_refl _)
    rw [Nat.zero_add] at this
    rw [this]

end Go.Hl
