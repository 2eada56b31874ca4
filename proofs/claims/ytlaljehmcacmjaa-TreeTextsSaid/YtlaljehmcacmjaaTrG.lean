/-
  The reference: left, Right.
-/
import Derived.Test.YtlaljehmcacmjaaTrF
set_option linter.unusedSectionVars false
set_option linter.unusedVariables false
set_option linter.unusedSimpArgs false
set_option maxRecDepth 100000
namespace Go.Hl
open Go Go.Proofs

def badN : Nd → Bool
  | .mk k g t a ks => decide (k < 1 ∨ k > 32 ∨ (k = 1 ∧ (t.size = 0 ∨ a < 0 ∨ ks.length > 0)) ∨ (k > 1 ∧ (t.size > 0 ∨ g.size > 0 ∨ a ≠ 0)))

mutual
def leftN : Nd → Int → Int
  | .mk k g t a ks, many => if many - 1 < 0 ∨ badN (.mk k g t a ks) = true then -1 else leftNs ks (many - 1)
def leftNs : List Nd → Int → Int
  | [], many => many
  | n :: ns, many => if leftN n many < 0 then -1 else leftNs ns (leftN n many)
end

mutual
theorem leftN_le : ∀ (n : Nd) (many : Int), 0 ≤ many → -1 ≤ leftN n many ∧ leftN n many ≤ many
  | .mk k g t a ks, many, h => by
    simp only [leftN]
    split
    · omega
    · rename_i hc
      have := leftNs_le ks (many - 1) (by omega)
      omega
theorem leftNs_le : ∀ (ns : List Nd) (many : Int), 0 ≤ many → -1 ≤ leftNs ns many ∧ leftNs ns many ≤ many
  | [], many, h => by simp only [leftNs]; omega
  | n :: ns, many, h => by
    simp only [leftNs]
    have h1 := leftN_le n many h
    split
    · omega
    · have := leftNs_le ns (leftN n many) (by omega)
      omega
end

structure LS where
  j : Nat
  many : Int

theorem left_calls : ∀ (sz : Nat) (n : Nd), cntN n ≤ sz → sz ≤ 1099511627776 → ∀ (many : Int), 0 ≤ many → many ≤ 1099511627776 → ∀ (σ : St), HCalls Try.prog 33 [.agg (encN n), .int .i64 many] σ (fun d σ' => d = .int .i64 (leftN n many) ∧ σ' = σ) := by
  intro sz
  induction sz with
  | zero => intro n hn; have := cntN_pos n; omega
  | succ sz ih =>
  intro n hn hsz many hm0 hm1 σ
  refine hcalls_body (fn := Try.f33) rfl c33 (by simp [h33]) (by simp [h33, Try.f33]) ?_
  intro M hP hr hnt hnx hwf hlt
  obtain ⟨k, g, t, a, ks⟩ := n
  have hks := cntN_kids (.mk k g t a ks)
  simp only [Nd.kids] at hks
  have hkl := kids_le ks
  have hkinds : encN (.mk k g t a ks) = [.int .i64 k, .str g, .str t, .int .i64 a, .slice .no 5 (encNs ks)] := by simp only [encN]
  have hbx : (σ.new (.box (encN (.mk k g t a ks)))).wf := hwf.box (encN_lt _ _)
  have hsub : Ext σ (σ.new (.box (encN (.mk k g t a ks)))) := (Ext.refl σ).new _
  rw [hkinds] at hbx hsub ⊢
  have hw1 : IntKind.i64.wrap (many - 1) = many - 1 := IntWalk.i64_in _ (by omega)
  simp only [h33, argEnv]
  refine hgo_sound 60 ?_
  simp -implicitDefEqProofs only [hgo_zero, hgo_nil, hgo_inBlock, hgo_stop, hgo_skip, hgo_ret, hgo_seq, hgo_block, hgo_ops, hgo_cond, hgo_exit, hgo_loop, hgo_draw, hgo_range, hgo_ops_nil, hgo_kill, hgo_call, hgo_eqSl, hgo_refuse, hgo_op, hgo_gop, condH_bool, exitH_some, exitH_none, bindH_some, guardH_bool, guardH_dead, grpH_some, grpH_none, notCall_mv, notCall_pick, notCall_alloc, notCall_box, notCall_build, notCall_bslice, notCall_bvec, notCall_vslice, notCall_vappend, notCall_load, notCall_store, notCall_nilck, notCall_bin, notCall_eqBool, notCall_eqPtr, notCall_eqIf, notCall_not, notCall_neg, notCall_convI, notCall_mkif, notCall_mkfn, notCall_slice, notCall_sliceS, notCall_cut, notCall_faddr, notCall_field, notCall_iaddr, notCall_aaddr, notCall_index, notCall_extract, notCall_len, notCall_lenS, notCall_append, notCall_allocT, notCall_convU, notCall_convT, notCall_usd, notCall_ustr, notCall_mm, hone_e, hgrp_eq, hgrpK_pick, runG_nil, runG_kill, runG_kill_stop, runG_step, runG_opp, runG_free, runG_eff, runG_other, runG_nest, bindG_some, addG_some, nestL_bool, nestK_pick, isKill_mv, isKill_pick, isKill_alloc, isKill_box, isKill_build, isKill_bslice, isKill_bvec, isKill_vslice, isKill_vappend, isKill_load, isKill_store, isKill_nilck, isKill_bin, isKill_eqBool, isKill_eqPtr, isKill_eqIf, isKill_not, isKill_neg, isKill_convI, isKill_mkif, isKill_mkfn, isKill_slice, isKill_sliceS, isKill_cut, isKill_faddr, isKill_field, isKill_iaddr, isKill_aaddr, isKill_index, isKill_extract, isKill_len, isKill_lenS, isKill_append, isKill_allocT, isKill_convU, isKill_convT, isKill_usd, isKill_ustr, isKill_mm, isKill_eqSl, isKill_call, pickV_e, delN_e1, delN_e2, delsN_e1, delsN_e2, addB_e, hstep_e, hval_e, evX_e, look_e1, look_e2, putO_e, putE_e1, putE_e2, killsE_e1, killsE_e2, killE_e1, killE_e2, cellsD_bool, cellsD_int, cellsD_str, cellsD_nilp, cellsD_ptr, cellsD_eptr, cellsD_slice, cellsD_func, cellsD_yld, cellsD_nilf, cellsD_iface, cellsD_nili, cellsD_vec, cellsD_vptr, cellsD_sptr, cellsD_agg, rdD_e, binD_e, storeD_e, buildD_e1, buildD_e2, fillD_e1, fillD_e2, wrD_e, boundD_e, sliceD_e, sliceSD_e, appendD_e, usdD_e, ustrD_e, nilEqD_e, Option.map_some, Bool.false_xor, Bool.true_xor, Bool.xor_false, Bool.xor_true, vsliceD_e, vappendD_e, usdD_e, ustrD_e, nilEqD_e, Option.map_some, Bool.false_xor, Bool.true_xor, Bool.xor_false, Bool.xor_true, srcD_e, if_true, if_false, ↓reduceIte, Nat.reduceEqDiff, Nat.reduceLT, Nat.reduceLeDiff, reduceCtorEq,
    St.obj_new, St.next_new, St.obj_put, St.next_put, St.obj_newAt, St.next_newAt, St.obj_bump, St.next_bump, St.put_new, St.put_newAt, St.put_put, St.put_bump, mix_next, mix_obj, mix_new, mix_put, Nat.lt_add_right_iff_pos, Nat.add_lt_add_iff_left, Nat.lt_irrefl, hexit_e1, hexit_e2, hexit_e3, Nat.reduceAdd, Nat.reduceSub, Nat.zero_add, Nat.add_zero, Nat.add_assoc, Nat.add_eq_left, Nat.left_eq_add, Nat.add_left_cancel_iff, List.getD_cons_zero, List.getD_cons_succ, List.length_cons, List.length_nil, true_and, Bool.not_true, Bool.not_false,
    List.mem_cons, List.not_mem_nil, List.mem_append, List.nil_append, List.cons_append, List.append_nil, List.take_succ_cons, List.take_zero, List.drop_succ_cons, List.drop_zero, List.set_cons_zero, List.set_cons_succ, List.map_cons, List.map_nil, or_self, or_false, false_or, or_true, true_or, implies_true, ite_bool, ite_int, ite_str,
    imp_self, and_true, Bool.true_eq_false, Bool.false_eq_true, false_imp_iff, forall_const, and_self, and_false, false_and, ne_eq, not_false_eq_true, not_true_eq_false, decide_true, decide_false, Nat.le_refl, Nat.lt_add_one, Nat.zero_lt_succ, hw1]
  have fin : ∀ (v : Int) (e : Env), look e 4 = .int .i64 v → v = leftN (.mk k g t a ks) many → FPost M.gS.next [HR.tmp 4] (fun d σ' => d = .int .i64 (leftN (.mk k g t a ks) many) ∧ σ' = σ) .ret e (σ.new (.box [.int .i64 k, .str g, .str t, .int .i64 a, .slice .no 5 (encNs ks)])) := by
    intro v e h1 h2
    refine fpost_pure (σ0 := σ) (.inr rfl) (by omega) hwf (hsub.sub hwf) (by simp only [resD, h1]; rfl) trivial ?_ ⟨by rw [← h2]; rfl, rfl⟩
    simp only [tupD, D.lt]
  have be0 : ∀ b : ByteArray, b = ByteArray.empty ↔ b.size = 0 := fun b => ⟨fun h => by rw [h]; rfl, fun h => by simpa using h⟩
  have ke0 : ks = [] ↔ ks.length = 0 := List.length_eq_zero_iff.symm
  have hkl2 : ((encNs ks).length : Int) > 0 ↔ ks.length > 0 := by rw [encNs_length]; omega
  refine ⟨fun h1 => fin _ _ rfl ?_, fun h1 => ⟨fun h2 => fin _ _ rfl ?_, fun h2 => ?_⟩⟩
  · simp only [leftN]
    rw [if_pos]
    simp at h1
    simp only [badN, decide_eq_true_eq]
    omega
  · simp only [leftN]
    rw [if_pos]
    simp [encNs_length] at h2
    simp only [be0, ke0] at h2
    simp only [badN, decide_eq_true_eq]
    omega
  · have hgood : ¬ (many - 1 < 0 ∨ badN (.mk k g t a ks) = true) := by
      simp at h1
      simp [encNs_length] at h2
      simp only [be0, ke0] at h2
      simp only [badN, decide_eq_true_eq]
      omega
    have hL : leftN (.mk k g t a ks) many = leftNs ks (many - 1) := by simp only [leftN]; rw [if_neg hgood]
    rw [hL]
    refine hx_know_code fun hw hl hn1 => ?_
    refine hx_loop (S := LS) (fun s => [(1, .int .i64 s.many), (2, .ptr σ.next 0), (5, .int .i64 s.j)]) (fun _ => σ.new (.box [.int .i64 k, .str g, .str t, .int .i64 a, .slice .no 5 (encNs ks)]))
      (fun s => s.j ≤ ks.length ∧ 0 ≤ s.many ∧ s.many ≤ 1099511627776 ∧ leftNs ks (many - 1) = leftNs (ks.drop s.j) s.many) (fun s => ks.length - s.j) ⟨0, many - 1⟩ ⟨Nat.zero_le _, by simp only; omega, by simp only; omega, rfl⟩ (fun _ _ h => by rw [hr] at h; cases h)
      (Drop.all hw (by rw [hnx]; exact Nat.le_succ _) ⟨⟨rfl, trivial⟩, ⟨rfl, hl 2⟩, ⟨rfl, trivial⟩, trivial⟩) ?_
    rintro ⟨j, m⟩ ⟨j1, j2, j3, j4⟩
    simp only at j1 j2 j3 j4 ⊢
    have hjc : ((j : Int) < ((encNs ks).length : Int)) = (j < ks.length) := by rw [encNs_length]; simp
    by_cases hj : j < ks.length
    · have hjd : decide (((j : Nat) : Int) < ((encNs ks).length : Int)) = true := by simp [hjc, hj]
      have hget : (encNs ks).getD j [] = encN ks[j] := by rw [encNs_eq]; simp [List.getD, hj]
      have hjp : ((j : Int) < ((encNs ks).length : Int)) := by rw [encNs_length]; omega
      have hdrop : ks.drop j = ks[j] :: ks.drop (j + 1) := List.drop_eq_getElem_cons hj
      rw [hdrop] at j4
      simp only [leftNs] at j4
      have hcm := cntN_mem (List.getElem_mem hj)
      have hle := leftN_le ks[j] m j2
      refine hgo_sound 60 ?_
      simp -implicitDefEqProofs only [hgo_zero, hgo_nil, hgo_inBlock, hgo_stop, hgo_skip, hgo_ret, hgo_seq, hgo_block, hgo_ops, hgo_cond, hgo_exit, hgo_loop, hgo_draw, hgo_range, hgo_ops_nil, hgo_kill, hgo_call, hgo_eqSl, hgo_refuse, hgo_op, hgo_gop, condH_bool, exitH_some, exitH_none, bindH_some, guardH_bool, guardH_dead, grpH_some, grpH_none, notCall_mv, notCall_pick, notCall_alloc, notCall_box, notCall_build, notCall_bslice, notCall_bvec, notCall_vslice, notCall_vappend, notCall_load, notCall_store, notCall_nilck, notCall_bin, notCall_eqBool, notCall_eqPtr, notCall_eqIf, notCall_not, notCall_neg, notCall_convI, notCall_mkif, notCall_mkfn, notCall_slice, notCall_sliceS, notCall_cut, notCall_faddr, notCall_field, notCall_iaddr, notCall_aaddr, notCall_index, notCall_extract, notCall_len, notCall_lenS, notCall_append, notCall_allocT, notCall_convU, notCall_convT, notCall_usd, notCall_ustr, notCall_mm, hone_e, hgrp_eq, hgrpK_pick, runG_nil, runG_kill, runG_kill_stop, runG_step, runG_opp, runG_free, runG_eff, runG_other, runG_nest, bindG_some, addG_some, nestL_bool, nestK_pick, isKill_mv, isKill_pick, isKill_alloc, isKill_box, isKill_build, isKill_bslice, isKill_bvec, isKill_vslice, isKill_vappend, isKill_load, isKill_store, isKill_nilck, isKill_bin, isKill_eqBool, isKill_eqPtr, isKill_eqIf, isKill_not, isKill_neg, isKill_convI, isKill_mkif, isKill_mkfn, isKill_slice, isKill_sliceS, isKill_cut, isKill_faddr, isKill_field, isKill_iaddr, isKill_aaddr, isKill_index, isKill_extract, isKill_len, isKill_lenS, isKill_append, isKill_allocT, isKill_convU, isKill_convT, isKill_usd, isKill_ustr, isKill_mm, isKill_eqSl, isKill_call, pickV_e, delN_e1, delN_e2, delsN_e1, delsN_e2, addB_e, hstep_e, hval_e, evX_e, look_e1, look_e2, putO_e, putE_e1, putE_e2, killsE_e1, killsE_e2, killE_e1, killE_e2, cellsD_bool, cellsD_int, cellsD_str, cellsD_nilp, cellsD_ptr, cellsD_eptr, cellsD_slice, cellsD_func, cellsD_yld, cellsD_nilf, cellsD_iface, cellsD_nili, cellsD_vec, cellsD_vptr, cellsD_sptr, cellsD_agg, rdD_e, binD_e, storeD_e, buildD_e1, buildD_e2, fillD_e1, fillD_e2, wrD_e, boundD_e, sliceD_e, sliceSD_e, appendD_e, usdD_e, ustrD_e, nilEqD_e, Option.map_some, Bool.false_xor, Bool.true_xor, Bool.xor_false, Bool.xor_true, vsliceD_e, vappendD_e, usdD_e, ustrD_e, nilEqD_e, Option.map_some, Bool.false_xor, Bool.true_xor, Bool.xor_false, Bool.xor_true, srcD_e, if_true, if_false, ↓reduceIte, Nat.reduceEqDiff, Nat.reduceLT, Nat.reduceLeDiff, reduceCtorEq,
    St.obj_new, St.next_new, St.obj_put, St.next_put, St.obj_newAt, St.next_newAt, St.obj_bump, St.next_bump, St.put_new, St.put_newAt, St.put_put, St.put_bump, mix_next, mix_obj, mix_new, mix_put, Nat.lt_add_right_iff_pos, Nat.add_lt_add_iff_left, Nat.lt_irrefl, hexit_e1, hexit_e2, hexit_e3, Nat.reduceAdd, Nat.reduceSub, Nat.zero_add, Nat.add_zero, Nat.add_assoc, Nat.add_eq_left, Nat.left_eq_add, Nat.add_left_cancel_iff, List.getD_cons_zero, List.getD_cons_succ, List.length_cons, List.length_nil, true_and, Bool.not_true, Bool.not_false,
    List.mem_cons, List.not_mem_nil, List.mem_append, List.nil_append, List.cons_append, List.append_nil, List.take_succ_cons, List.take_zero, List.drop_succ_cons, List.drop_zero, List.set_cons_zero, List.set_cons_succ, List.map_cons, List.map_nil, or_self, or_false, false_or, or_true, true_or, implies_true, ite_bool, ite_int, ite_str,
    imp_self, and_true, Bool.true_eq_false, Bool.false_eq_true, false_imp_iff, forall_const, and_self, and_false, false_and, ne_eq, not_false_eq_true, not_true_eq_false, decide_true, decide_false, Nat.le_refl, Nat.lt_add_one, Nat.zero_lt_succ, hjd, hjp, Int.toNat_natCast, Int.natCast_nonneg, hget, encN_length, encN_take]
      refine hx_call (f := .fn 33) rfl (by rw [hP]; exact hcallD_func (ih ks[j] (by omega) (by omega) m j2 j3 _)) ?_
      rintro _ _ ⟨rfl, rfl⟩
      have hwr : IntKind.i64.wrap ((j : Int) + 1) = ((j + 1 : Nat) : Int) := by rw [IntWalk.i64_in _ (by omega)]; rfl
      refine hgo_sound 60 ?_
      simp -implicitDefEqProofs only [hgo_zero, hgo_nil, hgo_inBlock, hgo_stop, hgo_skip, hgo_ret, hgo_seq, hgo_block, hgo_ops, hgo_cond, hgo_exit, hgo_loop, hgo_draw, hgo_range, hgo_ops_nil, hgo_kill, hgo_call, hgo_eqSl, hgo_refuse, hgo_op, hgo_gop, condH_bool, exitH_some, exitH_none, bindH_some, guardH_bool, guardH_dead, grpH_some, grpH_none, notCall_mv, notCall_pick, notCall_alloc, notCall_box, notCall_build, notCall_bslice, notCall_bvec, notCall_vslice, notCall_vappend, notCall_load, notCall_store, notCall_nilck, notCall_bin, notCall_eqBool, notCall_eqPtr, notCall_eqIf, notCall_not, notCall_neg, notCall_convI, notCall_mkif, notCall_mkfn, notCall_slice, notCall_sliceS, notCall_cut, notCall_faddr, notCall_field, notCall_iaddr, notCall_aaddr, notCall_index, notCall_extract, notCall_len, notCall_lenS, notCall_append, notCall_allocT, notCall_convU, notCall_convT, notCall_usd, notCall_ustr, notCall_mm, hone_e, hgrp_eq, hgrpK_pick, runG_nil, runG_kill, runG_kill_stop, runG_step, runG_opp, runG_free, runG_eff, runG_other, runG_nest, bindG_some, addG_some, nestL_bool, nestK_pick, isKill_mv, isKill_pick, isKill_alloc, isKill_box, isKill_build, isKill_bslice, isKill_bvec, isKill_vslice, isKill_vappend, isKill_load, isKill_store, isKill_nilck, isKill_bin, isKill_eqBool, isKill_eqPtr, isKill_eqIf, isKill_not, isKill_neg, isKill_convI, isKill_mkif, isKill_mkfn, isKill_slice, isKill_sliceS, isKill_cut, isKill_faddr, isKill_field, isKill_iaddr, isKill_aaddr, isKill_index, isKill_extract, isKill_len, isKill_lenS, isKill_append, isKill_allocT, isKill_convU, isKill_convT, isKill_usd, isKill_ustr, isKill_mm, isKill_eqSl, isKill_call, pickV_e, delN_e1, delN_e2, delsN_e1, delsN_e2, addB_e, hstep_e, hval_e, evX_e, look_e1, look_e2, putO_e, putE_e1, putE_e2, killsE_e1, killsE_e2, killE_e1, killE_e2, cellsD_bool, cellsD_int, cellsD_str, cellsD_nilp, cellsD_ptr, cellsD_eptr, cellsD_slice, cellsD_func, cellsD_yld, cellsD_nilf, cellsD_iface, cellsD_nili, cellsD_vec, cellsD_vptr, cellsD_sptr, cellsD_agg, rdD_e, binD_e, storeD_e, buildD_e1, buildD_e2, fillD_e1, fillD_e2, wrD_e, boundD_e, sliceD_e, sliceSD_e, appendD_e, usdD_e, ustrD_e, nilEqD_e, Option.map_some, Bool.false_xor, Bool.true_xor, Bool.xor_false, Bool.xor_true, vsliceD_e, vappendD_e, usdD_e, ustrD_e, nilEqD_e, Option.map_some, Bool.false_xor, Bool.true_xor, Bool.xor_false, Bool.xor_true, srcD_e, if_true, if_false, ↓reduceIte, Nat.reduceEqDiff, Nat.reduceLT, Nat.reduceLeDiff, reduceCtorEq,
    St.obj_new, St.next_new, St.obj_put, St.next_put, St.obj_newAt, St.next_newAt, St.obj_bump, St.next_bump, St.put_new, St.put_newAt, St.put_put, St.put_bump, mix_next, mix_obj, mix_new, mix_put, Nat.lt_add_right_iff_pos, Nat.add_lt_add_iff_left, Nat.lt_irrefl, hexit_e1, hexit_e2, hexit_e3, Nat.reduceAdd, Nat.reduceSub, Nat.zero_add, Nat.add_zero, Nat.add_assoc, Nat.add_eq_left, Nat.left_eq_add, Nat.add_left_cancel_iff, List.getD_cons_zero, List.getD_cons_succ, List.length_cons, List.length_nil, true_and, Bool.not_true, Bool.not_false,
    List.mem_cons, List.not_mem_nil, List.mem_append, List.nil_append, List.cons_append, List.append_nil, List.take_succ_cons, List.take_zero, List.drop_succ_cons, List.drop_zero, List.set_cons_zero, List.set_cons_succ, List.map_cons, List.map_nil, or_self, or_false, false_or, or_true, true_or, implies_true, ite_bool, ite_int, ite_str,
    imp_self, and_true, Bool.true_eq_false, Bool.false_eq_true, false_imp_iff, forall_const, and_self, and_false, false_and, ne_eq, not_false_eq_true, not_true_eq_false, decide_true, decide_false, Nat.le_refl, Nat.lt_add_one, Nat.zero_lt_succ, hwr]
      refine ⟨fun hb => ?_, fun hb => ?_⟩
      · have hb' : leftN ks[j] m < 0 := by simpa using hb
        rw [if_pos hb'] at j4
        rw [j4]
        exact fpost_pure (σ0 := σ) (.inr rfl) (by omega) hwf (hsub.sub hwf) rfl trivial trivial ⟨rfl, rfl⟩
      · have hb' : ¬ leftN ks[j] m < 0 := by simpa using hb
        rw [if_neg hb'] at j4
        intro hw2 hl2 hn2
        refine ⟨⟨j + 1, leftN ks[j] m⟩, ⟨by simp only; omega, by simp only; omega, by simp only; omega, j4⟩, by simp only; omega, ?_⟩
        exact Drop.all hw2 hn2 ⟨⟨rfl, trivial⟩, ⟨rfl, by have := hl2 2; exact this⟩, ⟨rfl, trivial⟩, trivial⟩
    · have hjd : decide (((j : Nat) : Int) < ((encNs ks).length : Int)) = false := by simp [hjc, hj]
      have hdrop : ks.drop j = [] := List.drop_eq_nil_of_le (by omega)
      rw [hdrop] at j4
      simp only [leftNs] at j4
      refine hgo_sound 60 ?_
      simp -implicitDefEqProofs only [hgo_zero, hgo_nil, hgo_inBlock, hgo_stop, hgo_skip, hgo_ret, hgo_seq, hgo_block, hgo_ops, hgo_cond, hgo_exit, hgo_loop, hgo_draw, hgo_range, hgo_ops_nil, hgo_kill, hgo_call, hgo_eqSl, hgo_refuse, hgo_op, hgo_gop, condH_bool, exitH_some, exitH_none, bindH_some, guardH_bool, guardH_dead, grpH_some, grpH_none, notCall_mv, notCall_pick, notCall_alloc, notCall_box, notCall_build, notCall_bslice, notCall_bvec, notCall_vslice, notCall_vappend, notCall_load, notCall_store, notCall_nilck, notCall_bin, notCall_eqBool, notCall_eqPtr, notCall_eqIf, notCall_not, notCall_neg, notCall_convI, notCall_mkif, notCall_mkfn, notCall_slice, notCall_sliceS, notCall_cut, notCall_faddr, notCall_field, notCall_iaddr, notCall_aaddr, notCall_index, notCall_extract, notCall_len, notCall_lenS, notCall_append, notCall_allocT, notCall_convU, notCall_convT, notCall_usd, notCall_ustr, notCall_mm, hone_e, hgrp_eq, hgrpK_pick, runG_nil, runG_kill, runG_kill_stop, runG_step, runG_opp, runG_free, runG_eff, runG_other, runG_nest, bindG_some, addG_some, nestL_bool, nestK_pick, isKill_mv, isKill_pick, isKill_alloc, isKill_box, isKill_build, isKill_bslice, isKill_bvec, isKill_vslice, isKill_vappend, isKill_load, isKill_store, isKill_nilck, isKill_bin, isKill_eqBool, isKill_eqPtr, isKill_eqIf, isKill_not, isKill_neg, isKill_convI, isKill_mkif, isKill_mkfn, isKill_slice, isKill_sliceS, isKill_cut, isKill_faddr, isKill_field, isKill_iaddr, isKill_aaddr, isKill_index, isKill_extract, isKill_len, isKill_lenS, isKill_append, isKill_allocT, isKill_convU, isKill_convT, isKill_usd, isKill_ustr, isKill_mm, isKill_eqSl, isKill_call, pickV_e, delN_e1, delN_e2, delsN_e1, delsN_e2, addB_e, hstep_e, hval_e, evX_e, look_e1, look_e2, putO_e, putE_e1, putE_e2, killsE_e1, killsE_e2, killE_e1, killE_e2, cellsD_bool, cellsD_int, cellsD_str, cellsD_nilp, cellsD_ptr, cellsD_eptr, cellsD_slice, cellsD_func, cellsD_yld, cellsD_nilf, cellsD_iface, cellsD_nili, cellsD_vec, cellsD_vptr, cellsD_sptr, cellsD_agg, rdD_e, binD_e, storeD_e, buildD_e1, buildD_e2, fillD_e1, fillD_e2, wrD_e, boundD_e, sliceD_e, sliceSD_e, appendD_e, usdD_e, ustrD_e, nilEqD_e, Option.map_some, Bool.false_xor, Bool.true_xor, Bool.xor_false, Bool.xor_true, vsliceD_e, vappendD_e, usdD_e, ustrD_e, nilEqD_e, Option.map_some, Bool.false_xor, Bool.true_xor, Bool.xor_false, Bool.xor_true, srcD_e, if_true, if_false, ↓reduceIte, Nat.reduceEqDiff, Nat.reduceLT, Nat.reduceLeDiff, reduceCtorEq,
    St.obj_new, St.next_new, St.obj_put, St.next_put, St.obj_newAt, St.next_newAt, St.obj_bump, St.next_bump, St.put_new, St.put_newAt, St.put_put, St.put_bump, mix_next, mix_obj, mix_new, mix_put, Nat.lt_add_right_iff_pos, Nat.add_lt_add_iff_left, Nat.lt_irrefl, hexit_e1, hexit_e2, hexit_e3, Nat.reduceAdd, Nat.reduceSub, Nat.zero_add, Nat.add_zero, Nat.add_assoc, Nat.add_eq_left, Nat.left_eq_add, Nat.add_left_cancel_iff, List.getD_cons_zero, List.getD_cons_succ, List.length_cons, List.length_nil, true_and, Bool.not_true, Bool.not_false,
    List.mem_cons, List.not_mem_nil, List.mem_append, List.nil_append, List.cons_append, List.append_nil, List.take_succ_cons, List.take_zero, List.drop_succ_cons, List.drop_zero, List.set_cons_zero, List.set_cons_succ, List.map_cons, List.map_nil, or_self, or_false, false_or, or_true, true_or, implies_true, ite_bool, ite_int, ite_str,
    imp_self, and_true, Bool.true_eq_false, Bool.false_eq_true, false_imp_iff, forall_const, and_self, and_false, false_and, ne_eq, not_false_eq_true, not_true_eq_false, decide_true, decide_false, Nat.le_refl, Nat.lt_add_one, Nat.zero_lt_succ, hjd]
      rw [j4]
      exact fpost_pure (σ0 := σ) (.inr rfl) (by omega) hwf (hsub.sub hwf) rfl trivial trivial ⟨rfl, rfl⟩

def rRightN (n : Nd) : Bool := decide (leftN n 20000 ≥ 0)

theorem rright_calls (n : Nd) (hn : cntN n ≤ 1099511627776) (σ : St) : HCalls Try.prog 10 [.agg (encN n)] σ (fun d σ' => d = .bool (rRightN n) ∧ σ' = σ) := by
  refine hcalls_body (fn := Try.f10) rfl c10 (by simp [h10]) (by simp [h10, Try.f10]) ?_
  intro M hP hr hnt hnx hwf hlt
  simp only [h10, argEnv]
  refine hgo_sound 40 ?_
  simp -implicitDefEqProofs only [hgo_zero, hgo_nil, hgo_inBlock, hgo_stop, hgo_skip, hgo_ret, hgo_seq, hgo_block, hgo_ops, hgo_cond, hgo_exit, hgo_loop, hgo_draw, hgo_range, hgo_ops_nil, hgo_kill, hgo_call, hgo_eqSl, hgo_refuse, hgo_op, hgo_gop, condH_bool, exitH_some, exitH_none, bindH_some, guardH_bool, guardH_dead, grpH_some, grpH_none, notCall_mv, notCall_pick, notCall_alloc, notCall_box, notCall_build, notCall_bslice, notCall_bvec, notCall_vslice, notCall_vappend, notCall_load, notCall_store, notCall_nilck, notCall_bin, notCall_eqBool, notCall_eqPtr, notCall_eqIf, notCall_not, notCall_neg, notCall_convI, notCall_mkif, notCall_mkfn, notCall_slice, notCall_sliceS, notCall_cut, notCall_faddr, notCall_field, notCall_iaddr, notCall_aaddr, notCall_index, notCall_extract, notCall_len, notCall_lenS, notCall_append, notCall_allocT, notCall_convU, notCall_convT, notCall_usd, notCall_ustr, notCall_mm, hone_e, hgrp_eq, hgrpK_pick, runG_nil, runG_kill, runG_kill_stop, runG_step, runG_opp, runG_free, runG_eff, runG_other, runG_nest, bindG_some, addG_some, nestL_bool, nestK_pick, isKill_mv, isKill_pick, isKill_alloc, isKill_box, isKill_build, isKill_bslice, isKill_bvec, isKill_vslice, isKill_vappend, isKill_load, isKill_store, isKill_nilck, isKill_bin, isKill_eqBool, isKill_eqPtr, isKill_eqIf, isKill_not, isKill_neg, isKill_convI, isKill_mkif, isKill_mkfn, isKill_slice, isKill_sliceS, isKill_cut, isKill_faddr, isKill_field, isKill_iaddr, isKill_aaddr, isKill_index, isKill_extract, isKill_len, isKill_lenS, isKill_append, isKill_allocT, isKill_convU, isKill_convT, isKill_usd, isKill_ustr, isKill_mm, isKill_eqSl, isKill_call, pickV_e, delN_e1, delN_e2, delsN_e1, delsN_e2, addB_e, hstep_e, hval_e, evX_e, look_e1, look_e2, putO_e, putE_e1, putE_e2, killsE_e1, killsE_e2, killE_e1, killE_e2, cellsD_bool, cellsD_int, cellsD_str, cellsD_nilp, cellsD_ptr, cellsD_eptr, cellsD_slice, cellsD_func, cellsD_yld, cellsD_nilf, cellsD_iface, cellsD_nili, cellsD_vec, cellsD_vptr, cellsD_sptr, cellsD_agg, rdD_e, binD_e, storeD_e, buildD_e1, buildD_e2, fillD_e1, fillD_e2, wrD_e, boundD_e, sliceD_e, sliceSD_e, appendD_e, usdD_e, ustrD_e, nilEqD_e, Option.map_some, Bool.false_xor, Bool.true_xor, Bool.xor_false, Bool.xor_true, vsliceD_e, vappendD_e, usdD_e, ustrD_e, nilEqD_e, Option.map_some, Bool.false_xor, Bool.true_xor, Bool.xor_false, Bool.xor_true, srcD_e, if_true, if_false, ↓reduceIte, Nat.reduceEqDiff, Nat.reduceLT, Nat.reduceLeDiff, reduceCtorEq,
    St.obj_new, St.next_new, St.obj_put, St.next_put, St.obj_newAt, St.next_newAt, St.obj_bump, St.next_bump, St.put_new, St.put_newAt, St.put_put, St.put_bump, mix_next, mix_obj, mix_new, mix_put, Nat.lt_add_right_iff_pos, Nat.add_lt_add_iff_left, Nat.lt_irrefl, hexit_e1, hexit_e2, hexit_e3, Nat.reduceAdd, Nat.reduceSub, Nat.zero_add, Nat.add_zero, Nat.add_assoc, Nat.add_eq_left, Nat.left_eq_add, Nat.add_left_cancel_iff, List.getD_cons_zero, List.getD_cons_succ, List.length_cons, List.length_nil, true_and, Bool.not_true, Bool.not_false,
    List.mem_cons, List.not_mem_nil, List.mem_append, List.nil_append, List.cons_append, List.append_nil, List.take_succ_cons, List.take_zero, List.drop_succ_cons, List.drop_zero, List.set_cons_zero, List.set_cons_succ, List.map_cons, List.map_nil, or_self, or_false, false_or, or_true, true_or, implies_true, ite_bool, ite_int, ite_str,
    imp_self, and_true, Bool.true_eq_false, Bool.false_eq_true, false_imp_iff, forall_const, and_self, and_false, false_and, ne_eq, not_false_eq_true, not_true_eq_false, decide_true, decide_false, Nat.le_refl, Nat.lt_add_one, Nat.zero_lt_succ, encN_length]
  refine hx_call (f := .fn 33) rfl (by rw [hP]; exact hcallD_func (left_calls _ n (Nat.le_refl _) hn 20000 (by omega) (by omega) _)) ?_
  rintro _ σ2 ⟨rfl, rfl⟩
  refine hgo_sound 40 ?_
  simp -implicitDefEqProofs only [hgo_zero, hgo_nil, hgo_inBlock, hgo_stop, hgo_skip, hgo_ret, hgo_seq, hgo_block, hgo_ops, hgo_cond, hgo_exit, hgo_loop, hgo_draw, hgo_range, hgo_ops_nil, hgo_kill, hgo_call, hgo_eqSl, hgo_refuse, hgo_op, hgo_gop, condH_bool, exitH_some, exitH_none, bindH_some, guardH_bool, guardH_dead, grpH_some, grpH_none, notCall_mv, notCall_pick, notCall_alloc, notCall_box, notCall_build, notCall_bslice, notCall_bvec, notCall_vslice, notCall_vappend, notCall_load, notCall_store, notCall_nilck, notCall_bin, notCall_eqBool, notCall_eqPtr, notCall_eqIf, notCall_not, notCall_neg, notCall_convI, notCall_mkif, notCall_mkfn, notCall_slice, notCall_sliceS, notCall_cut, notCall_faddr, notCall_field, notCall_iaddr, notCall_aaddr, notCall_index, notCall_extract, notCall_len, notCall_lenS, notCall_append, notCall_allocT, notCall_convU, notCall_convT, notCall_usd, notCall_ustr, notCall_mm, hone_e, hgrp_eq, hgrpK_pick, runG_nil, runG_kill, runG_kill_stop, runG_step, runG_opp, runG_free, runG_eff, runG_other, runG_nest, bindG_some, addG_some, nestL_bool, nestK_pick, isKill_mv, isKill_pick, isKill_alloc, isKill_box, isKill_build, isKill_bslice, isKill_bvec, isKill_vslice, isKill_vappend, isKill_load, isKill_store, isKill_nilck, isKill_bin, isKill_eqBool, isKill_eqPtr, isKill_eqIf, isKill_not, isKill_neg, isKill_convI, isKill_mkif, isKill_mkfn, isKill_slice, isKill_sliceS, isKill_cut, isKill_faddr, isKill_field, isKill_iaddr, isKill_aaddr, isKill_index, isKill_extract, isKill_len, isKill_lenS, isKill_append, isKill_allocT, isKill_convU, isKill_convT, isKill_usd, isKill_ustr, isKill_mm, isKill_eqSl, isKill_call, pickV_e, delN_e1, delN_e2, delsN_e1, delsN_e2, addB_e, hstep_e, hval_e, evX_e, look_e1, look_e2, putO_e, putE_e1, putE_e2, killsE_e1, killsE_e2, killE_e1, killE_e2, cellsD_bool, cellsD_int, cellsD_str, cellsD_nilp, cellsD_ptr, cellsD_eptr, cellsD_slice, cellsD_func, cellsD_yld, cellsD_nilf, cellsD_iface, cellsD_nili, cellsD_vec, cellsD_vptr, cellsD_sptr, cellsD_agg, rdD_e, binD_e, storeD_e, buildD_e1, buildD_e2, fillD_e1, fillD_e2, wrD_e, boundD_e, sliceD_e, sliceSD_e, appendD_e, usdD_e, ustrD_e, nilEqD_e, Option.map_some, Bool.false_xor, Bool.true_xor, Bool.xor_false, Bool.xor_true, vsliceD_e, vappendD_e, usdD_e, ustrD_e, nilEqD_e, Option.map_some, Bool.false_xor, Bool.true_xor, Bool.xor_false, Bool.xor_true, srcD_e, if_true, if_false, ↓reduceIte, Nat.reduceEqDiff, Nat.reduceLT, Nat.reduceLeDiff, reduceCtorEq,
    St.obj_new, St.next_new, St.obj_put, St.next_put, St.obj_newAt, St.next_newAt, St.obj_bump, St.next_bump, St.put_new, St.put_newAt, St.put_put, St.put_bump, mix_next, mix_obj, mix_new, mix_put, Nat.lt_add_right_iff_pos, Nat.add_lt_add_iff_left, Nat.lt_irrefl, hexit_e1, hexit_e2, hexit_e3, Nat.reduceAdd, Nat.reduceSub, Nat.zero_add, Nat.add_zero, Nat.add_assoc, Nat.add_eq_left, Nat.left_eq_add, Nat.add_left_cancel_iff, List.getD_cons_zero, List.getD_cons_succ, List.length_cons, List.length_nil, true_and, Bool.not_true, Bool.not_false,
    List.mem_cons, List.not_mem_nil, List.mem_append, List.nil_append, List.cons_append, List.append_nil, List.take_succ_cons, List.take_zero, List.drop_succ_cons, List.drop_zero, List.set_cons_zero, List.set_cons_succ, List.map_cons, List.map_nil, or_self, or_false, false_or, or_true, true_or, implies_true, ite_bool, ite_int, ite_str,
    imp_self, and_true, Bool.true_eq_false, Bool.false_eq_true, false_imp_iff, forall_const, and_self, and_false, false_and, ne_eq, not_false_eq_true, not_true_eq_false, decide_true, decide_false, Nat.le_refl, Nat.lt_add_one, Nat.zero_lt_succ]
  exact fpost_pure (σ0 := σ) (.inr rfl) (by omega) hwf (((Ext.refl σ).new _).sub hwf) rfl trivial trivial ⟨rfl, rfl⟩

end Go.Hl
