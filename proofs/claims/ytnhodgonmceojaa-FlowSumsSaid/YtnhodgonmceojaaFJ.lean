/- Contracts of flow: the arcs of a net, one after the other. -/
import Derived.Test.YtnhodgonmceojaaFI
set_option linter.unusedVariables false
set_option linter.unusedSimpArgs false
namespace Go.Proofs.Ytnhodgonmceojaa.Sh
open Go.RowKit

theorem callK_yield {P : Program} {Γ : YEnv} {i : Nat} {args : List Value} {m : Mem} {K : Value → Mem → Prop} (h : Γ i args m K) : callK P Γ (.func (.yield i) #[] #[]) args m K := ⟨rfl, rfl, h⟩

theorem arcs_spec {Γ : YEnv} (hΓ : YMono Γ) (p : Addr) (m : Mem) :
    ACalls Try.prog Γ 76 [.pointer (some p)] m fun r m' => r = .func (.func 78) #[] #[.pointer (some ⟨m.next, 0, none⟩)] ∧ m' = m.new (.cells [.pointer (some p)] 72 1) := by
  refine acallsW hΓ fok76 (by simp [X76]) fun Q hQ => ?_
  simp (decide := true) only [S76_0, S76_1, S76_2, S76_3, S76, X76, G76, get_new_at, get_set_at, next_set, cell_new_at, cells_new_at, cell_set_at, cells_set_at, cellG_cells, cellsG_cells, splice_nil, splice_cons, List.set_cons_zero, List.set_cons_succ, zc32, ne1, ne1', ne2, ne2', ne3, ne3', cancel1, buildA_nil, buildA_cons, List.toList_toArray, W_seq, W_skip, W_exit, W_ret, W_block, W_scope, W_cond, W_reg, W_regD, We_nil, We_code_n, We_code_e, We_code_r, We_blk_n, We_blk_r, We_blk_e, We_scp_n, We_scp_r, We_scp_e, Wo_nil, Wo_guard, Wo_mov, Wo_lit, Wo_app1, Wo_call, Wo_invoke, Wo_pick, Wo_new, Wo_box, Wo_build, Wo_bslice, Wo_ld1, Wo_ldN, Wo_st, Wo_nilck, Wo_bin, Wo_isnil, Wo_beq, Wo_not, Wo_neg, Wo_conv, Wo_iface, Wo_mkfunc, Wo_mkmap, Wo_mkslice, Wo_sl, Wo_slArr, Wo_off, Wo_ixArr, Wo_ixSl, Wo_fld1, Wo_fldN, Wo_ixVal1, Wo_ixValN, Wo_ext, Wo_len, Wo_lenC, Wo_minmax, Wo_app, Wo_look, Wo_mapset, stepW_some, stepW_ite, stepW_ite', guardW_tt, guardW_tf, guardW_ft, guardW_ff, condW_t, condW_f, condW_dec, litW_lit, buildW_some, qW_some, Wt_fin, Wt_q, Wt_qf, Wt_qg, evalO_tmp, evalO_func, evalO_int, evalO_bool, evalO_ptr, evalO_slice, evalO_map, evalO_nilFunc, evalO_nilIface, putO_some, putO_none, sem_nil, sem_cons, lim_eq, limL_nil, limL_cons, argF_apply, v_val, vals_apply, bindP_cons, bindP_nil, binA_lss, binA_leq, binA_gtr, binA_geq, binA_eql, binA_neq, binA_add, binA_sub, binA_mul, binA_quo, binA_rem, binA_and, binA_or, binA_xor, binA_shl, binA_shr, step, List.map_cons, List.map_nil, Option.map_some, Option.map_none, if_true, if_false, reduceIte, not_bool_dec, callK_func, List.getElem?_cons_zero, List.getElem?_cons_succ, Option.getD_some, List.nil_append, List.append_nil, List.cons_append, List.getElem?_nil, Option.getD_none, true_implies, false_implies, not_true_eq_false, not_false_eq_true, and_true, true_and, decide_true, decide_false, Int.natCast_nonneg, Int.toNat_natCast, Nat.mul_one, cell_new, cells_new, minmaxA_nil, minmaxA_min, minmaxA_max, okVal_agg, okVal_int, okVal_bool, okVal_slice, okVal_ptr, okVal_iface, okVal_func, okCell_int, okCell_bool, okCell_slice, okCell_ptr, cells_agg, cells_int, cells_bool, cells_slice, cells_ptr, cells_iface, cells_func, List.size_toArray, List.length_cons, List.length_nil, Nat.zero_add, Nat.add_zero, List.drop_zero, List.take_succ_cons, List.take_zero, List.drop_succ_cons, Mem.next_new, List.all_cons, List.all_nil, Bool.and_true, Bool.and_self, and_self]
  refine hQ _ _ _ ⟨.inr rfl, [.func (.func 78) #[] #[.pointer (some ⟨m.next, 0, none⟩)]], ?_, rfl, rfl⟩
  simp [X76, R76, resL, sem, Slot.v]

theorem arcs1_spec {Γ : YEnv} (hΓ : YMono Γ) (iy : Nat) (q p : Addr) (l : List ArcI) (v : Value) (m : Mem) (J : Nat → Mem → Prop) (h : Arcs m v l) (hl : l.length < 1000000)
    (hq : m.cell q.block q.off = some (.pointer (some p))) (hp : m.cell p.block (p.off + 1) = some v)
    (h0 : J 0 m) (hst : ∀ j m1 m2, J j m1 → Mext m1 m2 → J j m2) (hext : ∀ j m1, J j m1 → Arcs m1 v l)
    (hy : ∀ j x m1, l[j]? = some x → J j m1 → Γ iy [x.val, .int .i64 0] m1 fun r m2 => r = .bool true ∧ J (j + 1) m2) :
    ACalls Try.prog Γ 78 [.func (.yield iy) #[] #[], .pointer (some q)] m fun _ m' => J l.length m' := by
  refine acallsW hΓ fok78 (by simp [X78]) fun Q hQ => ?_
  obtain ⟨ao, c, rfl⟩ := h.len
  simp (decide := true) only [S78_0, S78_1, S78_2, S78_3, S78_4, S78_5, S78_6, S78_7, S78_8, S78_9, S78_10, S78_11, S78_12, S78_13, S78_14, S78_15, S78, X78, G78, hq, hp, W_seq, W_skip, W_exit, W_ret, W_block, W_scope, W_cond, W_reg, W_regD, We_nil, We_code_n, We_code_e, We_code_r, We_blk_n, We_blk_r, We_blk_e, We_scp_n, We_scp_r, We_scp_e, Wo_nil, Wo_guard, Wo_mov, Wo_lit, Wo_app1, Wo_call, Wo_invoke, Wo_pick, Wo_new, Wo_box, Wo_build, Wo_bslice, Wo_ld1, Wo_ldN, Wo_st, Wo_nilck, Wo_bin, Wo_isnil, Wo_beq, Wo_not, Wo_neg, Wo_conv, Wo_iface, Wo_mkfunc, Wo_mkmap, Wo_mkslice, Wo_sl, Wo_slArr, Wo_off, Wo_ixArr, Wo_ixSl, Wo_fld1, Wo_fldN, Wo_ixVal1, Wo_ixValN, Wo_ext, Wo_len, Wo_lenC, Wo_minmax, Wo_app, Wo_look, Wo_mapset, stepW_some, stepW_ite, stepW_ite', guardW_tt, guardW_tf, guardW_ft, guardW_ff, condW_t, condW_f, condW_dec, litW_lit, buildW_some, qW_some, Wt_fin, Wt_q, Wt_qf, Wt_qg, evalO_tmp, evalO_func, evalO_int, evalO_bool, evalO_ptr, evalO_slice, evalO_map, evalO_nilFunc, evalO_nilIface, putO_some, putO_none, sem_nil, sem_cons, lim_eq, limL_nil, limL_cons, argF_apply, v_val, vals_apply, bindP_cons, bindP_nil, binA_lss, binA_leq, binA_gtr, binA_geq, binA_eql, binA_neq, binA_add, binA_sub, binA_mul, binA_quo, binA_rem, binA_and, binA_or, binA_xor, binA_shl, binA_shr, step, List.map_cons, List.map_nil, Option.map_some, Option.map_none, if_true, if_false, reduceIte, not_bool_dec, callK_func, List.getElem?_cons_zero, List.getElem?_cons_succ, Option.getD_some, List.nil_append, List.append_nil, List.cons_append, List.getElem?_nil, Option.getD_none, true_implies, false_implies, not_true_eq_false, not_false_eq_true, and_true, true_and, decide_true, decide_false, Int.natCast_nonneg, Int.toNat_natCast, Nat.mul_one, cell_new, cells_new, minmaxA_nil, minmaxA_min, minmaxA_max, okVal_agg, okVal_int, okVal_bool, okVal_slice, okVal_ptr, okVal_iface, okVal_func, okCell_int, okCell_bool, okCell_slice, okCell_ptr, cells_agg, cells_int, cells_bool, cells_slice, cells_ptr, cells_iface, cells_func, List.size_toArray, List.length_cons, List.length_nil, Nat.zero_add, Nat.add_zero, List.drop_zero, List.take_succ_cons, List.take_zero, List.drop_succ_cons, Mem.next_new, List.all_cons, List.all_nil, Bool.and_true, Bool.and_self, and_self]
  refine W_loop (fun k s m' => ∃ (i : Nat) (x4 x11 x17 : Slot), i ≤ l.length ∧ k = l.length - i ∧ J i m' ∧
    s = sem [(0, .val (.func (.yield iy) #[] #[])), (1, .val (.pointer (some q))), (4, x4), (8, .val (.slice ao l.length c)), (9, .val (.int .i64 l.length)), (10, .val (.int .i64 i)), (11, x11), (17, x17)])
    l.length ⟨0, _, _, _, Nat.zero_le _, rfl, h0, rfl⟩ hΓ ?_
  rintro k s m' ⟨i, x4, x11, x17, hi, rfl, hj, rfl⟩ Q' hn he hret
  by_cases hlt : i < l.length
  · have hlt' : (i : Int) < l.length := by omega
    have hw : IntKind.wrap .i64 ((i : Int) + 1) = ((i + 1 : Nat) : Int) := by rw [wrap_i64 (by omega) (by omega)]; omega
    have hx : l[i]? = some l[i] := List.getElem?_eq_getElem hlt
    generalize hxe : l[i] = y at hx
    have hz73 : Zc Try.prog 73 = [.int .i64 0, .int .i64 0, .int .i64 0] := by kernel_rfl
    cases ao with
    | none => have := h.nil _ _ rfl; subst this; simp at hlt
    | some a =>
      have hcs := (hext i m' hj).get a _ _ rfl i y hx
      simp only [ArcI.cells] at hcs
      simp (decide := true) only [hlt', hw, hcs, hz73, get_new_at, get_set_at, next_set, cell_new_at, cells_new_at, cell_set_at, cells_set_at, cellG_cells, cellsG_cells, splice_nil, splice_cons, List.set_cons_zero, List.set_cons_succ, zc32, ne1, ne1', ne2, ne2', ne3, ne3', cancel1, buildA_nil, buildA_cons, List.toList_toArray, W_seq, W_skip, W_exit, W_ret, W_block, W_scope, W_cond, W_reg, W_regD, We_nil, We_code_n, We_code_e, We_code_r, We_blk_n, We_blk_r, We_blk_e, We_scp_n, We_scp_r, We_scp_e, Wo_nil, Wo_guard, Wo_mov, Wo_lit, Wo_app1, Wo_call, Wo_invoke, Wo_pick, Wo_new, Wo_box, Wo_build, Wo_bslice, Wo_ld1, Wo_ldN, Wo_st, Wo_nilck, Wo_bin, Wo_isnil, Wo_beq, Wo_not, Wo_neg, Wo_conv, Wo_iface, Wo_mkfunc, Wo_mkmap, Wo_mkslice, Wo_sl, Wo_slArr, Wo_off, Wo_ixArr, Wo_ixSl, Wo_fld1, Wo_fldN, Wo_ixVal1, Wo_ixValN, Wo_ext, Wo_len, Wo_lenC, Wo_minmax, Wo_app, Wo_look, Wo_mapset, stepW_some, stepW_ite, stepW_ite', guardW_tt, guardW_tf, guardW_ft, guardW_ff, condW_t, condW_f, condW_dec, litW_lit, buildW_some, qW_some, Wt_fin, Wt_q, Wt_qf, Wt_qg, evalO_tmp, evalO_func, evalO_int, evalO_bool, evalO_ptr, evalO_slice, evalO_map, evalO_nilFunc, evalO_nilIface, putO_some, putO_none, sem_nil, sem_cons, lim_eq, limL_nil, limL_cons, argF_apply, v_val, vals_apply, bindP_cons, bindP_nil, binA_lss, binA_leq, binA_gtr, binA_geq, binA_eql, binA_neq, binA_add, binA_sub, binA_mul, binA_quo, binA_rem, binA_and, binA_or, binA_xor, binA_shl, binA_shr, step, List.map_cons, List.map_nil, Option.map_some, Option.map_none, if_true, if_false, reduceIte, not_bool_dec, callK_func, List.getElem?_cons_zero, List.getElem?_cons_succ, Option.getD_some, List.nil_append, List.append_nil, List.cons_append, List.getElem?_nil, Option.getD_none, true_implies, false_implies, not_true_eq_false, not_false_eq_true, and_true, true_and, decide_true, decide_false, Int.natCast_nonneg, Int.toNat_natCast, Nat.mul_one, cell_new, cells_new, minmaxA_nil, minmaxA_min, minmaxA_max, okVal_agg, okVal_int, okVal_bool, okVal_slice, okVal_ptr, okVal_iface, okVal_func, okCell_int, okCell_bool, okCell_slice, okCell_ptr, cells_agg, cells_int, cells_bool, cells_slice, cells_ptr, cells_iface, cells_func, List.size_toArray, List.length_cons, List.length_nil, Nat.zero_add, Nat.add_zero, List.drop_zero, List.take_succ_cons, List.take_zero, List.drop_succ_cons, Mem.next_new, List.all_cons, List.all_nil, Bool.and_true, Bool.and_self, and_self]
      refine callK_yield (hΓ _ _ _ _ _ ?_ (hy i y _ hx (hst i m' _ hj (((Mext.refl m').new _).set (Nat.le_refl _) _))))
      rintro r m2 ⟨rfl, hj2⟩
      simp (decide := true) only [hw, Bool.not_true, W_seq, W_skip, W_exit, W_ret, W_block, W_scope, W_cond, W_reg, W_regD, We_nil, We_code_n, We_code_e, We_code_r, We_blk_n, We_blk_r, We_blk_e, We_scp_n, We_scp_r, We_scp_e, Wo_nil, Wo_guard, Wo_mov, Wo_lit, Wo_app1, Wo_call, Wo_invoke, Wo_pick, Wo_new, Wo_box, Wo_build, Wo_bslice, Wo_ld1, Wo_ldN, Wo_st, Wo_nilck, Wo_bin, Wo_isnil, Wo_beq, Wo_not, Wo_neg, Wo_conv, Wo_iface, Wo_mkfunc, Wo_mkmap, Wo_mkslice, Wo_sl, Wo_slArr, Wo_off, Wo_ixArr, Wo_ixSl, Wo_fld1, Wo_fldN, Wo_ixVal1, Wo_ixValN, Wo_ext, Wo_len, Wo_lenC, Wo_minmax, Wo_app, Wo_look, Wo_mapset, stepW_some, stepW_ite, stepW_ite', guardW_tt, guardW_tf, guardW_ft, guardW_ff, condW_t, condW_f, condW_dec, litW_lit, buildW_some, qW_some, Wt_fin, Wt_q, Wt_qf, Wt_qg, evalO_tmp, evalO_func, evalO_int, evalO_bool, evalO_ptr, evalO_slice, evalO_map, evalO_nilFunc, evalO_nilIface, putO_some, putO_none, sem_nil, sem_cons, lim_eq, limL_nil, limL_cons, argF_apply, v_val, vals_apply, bindP_cons, bindP_nil, binA_lss, binA_leq, binA_gtr, binA_geq, binA_eql, binA_neq, binA_add, binA_sub, binA_mul, binA_quo, binA_rem, binA_and, binA_or, binA_xor, binA_shl, binA_shr, step, List.map_cons, List.map_nil, Option.map_some, Option.map_none, if_true, if_false, reduceIte, not_bool_dec, callK_func, List.getElem?_cons_zero, List.getElem?_cons_succ, Option.getD_some, List.nil_append, List.append_nil, List.cons_append, List.getElem?_nil, Option.getD_none, true_implies, false_implies, not_true_eq_false, not_false_eq_true, and_true, true_and, decide_true, decide_false, Int.natCast_nonneg, Int.toNat_natCast, Nat.mul_one, cell_new, cells_new, minmaxA_nil, minmaxA_min, minmaxA_max, okVal_agg, okVal_int, okVal_bool, okVal_slice, okVal_ptr, okVal_iface, okVal_func, okCell_int, okCell_bool, okCell_slice, okCell_ptr, cells_agg, cells_int, cells_bool, cells_slice, cells_ptr, cells_iface, cells_func, List.size_toArray, List.length_cons, List.length_nil, Nat.zero_add, Nat.add_zero, List.drop_zero, List.take_succ_cons, List.take_zero, List.drop_succ_cons, Mem.next_new, List.all_cons, List.all_nil, Bool.and_true, Bool.and_self, and_self]
      exact hn _ _ _ (by omega) ⟨i + 1, _, _, _, hlt, rfl, hj2, rfl⟩
  · have hlt' : ¬ (i : Int) < l.length := by omega
    have hin : i = l.length := by omega
    subst hin
    simp (decide := true) only [hlt', W_seq, W_skip, W_exit, W_ret, W_block, W_scope, W_cond, W_reg, W_regD, We_nil, We_code_n, We_code_e, We_code_r, We_blk_n, We_blk_r, We_blk_e, We_scp_n, We_scp_r, We_scp_e, Wo_nil, Wo_guard, Wo_mov, Wo_lit, Wo_app1, Wo_call, Wo_invoke, Wo_pick, Wo_new, Wo_box, Wo_build, Wo_bslice, Wo_ld1, Wo_ldN, Wo_st, Wo_nilck, Wo_bin, Wo_isnil, Wo_beq, Wo_not, Wo_neg, Wo_conv, Wo_iface, Wo_mkfunc, Wo_mkmap, Wo_mkslice, Wo_sl, Wo_slArr, Wo_off, Wo_ixArr, Wo_ixSl, Wo_fld1, Wo_fldN, Wo_ixVal1, Wo_ixValN, Wo_ext, Wo_len, Wo_lenC, Wo_minmax, Wo_app, Wo_look, Wo_mapset, stepW_some, stepW_ite, stepW_ite', guardW_tt, guardW_tf, guardW_ft, guardW_ff, condW_t, condW_f, condW_dec, litW_lit, buildW_some, qW_some, Wt_fin, Wt_q, Wt_qf, Wt_qg, evalO_tmp, evalO_func, evalO_int, evalO_bool, evalO_ptr, evalO_slice, evalO_map, evalO_nilFunc, evalO_nilIface, putO_some, putO_none, sem_nil, sem_cons, lim_eq, limL_nil, limL_cons, argF_apply, v_val, vals_apply, bindP_cons, bindP_nil, binA_lss, binA_leq, binA_gtr, binA_geq, binA_eql, binA_neq, binA_add, binA_sub, binA_mul, binA_quo, binA_rem, binA_and, binA_or, binA_xor, binA_shl, binA_shr, step, List.map_cons, List.map_nil, Option.map_some, Option.map_none, if_true, if_false, reduceIte, not_bool_dec, callK_func, List.getElem?_cons_zero, List.getElem?_cons_succ, Option.getD_some, List.nil_append, List.append_nil, List.cons_append, List.getElem?_nil, Option.getD_none, true_implies, false_implies, not_true_eq_false, not_false_eq_true, and_true, true_and, decide_true, decide_false, Int.natCast_nonneg, Int.toNat_natCast, Nat.mul_one, cell_new, cells_new, minmaxA_nil, minmaxA_min, minmaxA_max, okVal_agg, okVal_int, okVal_bool, okVal_slice, okVal_ptr, okVal_iface, okVal_func, okCell_int, okCell_bool, okCell_slice, okCell_ptr, cells_agg, cells_int, cells_bool, cells_slice, cells_ptr, cells_iface, cells_func, List.size_toArray, List.length_cons, List.length_nil, Nat.zero_add, Nat.add_zero, List.drop_zero, List.take_succ_cons, List.take_zero, List.drop_succ_cons, Mem.next_new, List.all_cons, List.all_nil, Bool.and_true, Bool.and_self, and_self]
    refine he _ _ _ ?_
    simp (decide := true) only [W_seq, W_skip, W_exit, W_ret, W_block, W_scope, W_cond, W_reg, W_regD, We_nil, We_code_n, We_code_e, We_code_r, We_blk_n, We_blk_r, We_blk_e, We_scp_n, We_scp_r, We_scp_e, Wo_nil, Wo_guard, Wo_mov, Wo_lit, Wo_app1, Wo_call, Wo_invoke, Wo_pick, Wo_new, Wo_box, Wo_build, Wo_bslice, Wo_ld1, Wo_ldN, Wo_st, Wo_nilck, Wo_bin, Wo_isnil, Wo_beq, Wo_not, Wo_neg, Wo_conv, Wo_iface, Wo_mkfunc, Wo_mkmap, Wo_mkslice, Wo_sl, Wo_slArr, Wo_off, Wo_ixArr, Wo_ixSl, Wo_fld1, Wo_fldN, Wo_ixVal1, Wo_ixValN, Wo_ext, Wo_len, Wo_lenC, Wo_minmax, Wo_app, Wo_look, Wo_mapset, stepW_some, stepW_ite, stepW_ite', guardW_tt, guardW_tf, guardW_ft, guardW_ff, condW_t, condW_f, condW_dec, litW_lit, buildW_some, qW_some, Wt_fin, Wt_q, Wt_qf, Wt_qg, evalO_tmp, evalO_func, evalO_int, evalO_bool, evalO_ptr, evalO_slice, evalO_map, evalO_nilFunc, evalO_nilIface, putO_some, putO_none, sem_nil, sem_cons, lim_eq, limL_nil, limL_cons, argF_apply, v_val, vals_apply, bindP_cons, bindP_nil, binA_lss, binA_leq, binA_gtr, binA_geq, binA_eql, binA_neq, binA_add, binA_sub, binA_mul, binA_quo, binA_rem, binA_and, binA_or, binA_xor, binA_shl, binA_shr, step, List.map_cons, List.map_nil, Option.map_some, Option.map_none, if_true, if_false, reduceIte, not_bool_dec, callK_func, List.getElem?_cons_zero, List.getElem?_cons_succ, Option.getD_some, List.nil_append, List.append_nil, List.cons_append, List.getElem?_nil, Option.getD_none, true_implies, false_implies, not_true_eq_false, not_false_eq_true, and_true, true_and, decide_true, decide_false, Int.natCast_nonneg, Int.toNat_natCast, Nat.mul_one, cell_new, cells_new, minmaxA_nil, minmaxA_min, minmaxA_max, okVal_agg, okVal_int, okVal_bool, okVal_slice, okVal_ptr, okVal_iface, okVal_func, okCell_int, okCell_bool, okCell_slice, okCell_ptr, cells_agg, cells_int, cells_bool, cells_slice, cells_ptr, cells_iface, cells_func, List.size_toArray, List.length_cons, List.length_nil, Nat.zero_add, Nat.add_zero, List.drop_zero, List.take_succ_cons, List.take_zero, List.drop_succ_cons, Mem.next_new, List.all_cons, List.all_nil, Bool.and_true, Bool.and_self, and_self]
    exact hQ _ _ _ ⟨.inl rfl, [], rfl, hj⟩

theorem optK_mono {α : Type} {o : Option α} {k k' : α → Prop} (h : ∀ a, k a → k' a) (hk : optK o k) : optK o k' := by
  cases o with
  | none => exact hk
  | some a => exact h a hk
theorem opN_mono {c : Cx} (hΓ : YMono c.Γ) {o : SOp} {K K' : Fr → Mem → Prop} (hk : ∀ s m, K s m → K' s m) {s : Fr} {m : Mem} (h : opN c o K s m) : opN c o K' s m := by
  obtain ⟨d, op, g⟩ := o
  cases op with
  | lit e z len parts => exact optK_mono (fun a h => hk _ _ h) h
  | app1 e z bytes x t =>
    dsimp only [opN] at h ⊢
    generalize s t = sl at h ⊢
    cases sl with
    | val v => exact h
    | lit k cs => exact ⟨h.1, optK_mono (fun a h => hk _ _ h) h.2⟩
  | call f args => exact callK_mono hΓ (fun v m' h => hk _ _ h) h
  | invoke r nm args => exact invK_mono (fun v m' h => hk _ _ h) h
  | _ =>
    dsimp only [opN] at h ⊢
    exact optK_mono (fun a h => hk _ _ h) h
theorem guardK_mono {x : Slot} {want : Bool} {A B A' B' : Prop} (ha : A → A') (hb : B → B') (h : guardK x want A B) : guardK x want A' B' := by
  unfold guardK at *
  split at h
  · split at h
    · rename_i e; rw [if_pos e]; exact ha h
    · rename_i e; rw [if_neg e]; exact hb h
  · exact h
theorem opsN_mono {c : Cx} (hΓ : YMono c.Γ) {K K' : Fr → Mem → Prop} (hk : ∀ s m, K s m → K' s m) : ∀ (ops : List SOp) (s : Fr) (m : Mem), opsN c ops K s m → opsN c ops K' s m
  | [], s, m, h => hk _ _ h
  | ⟨d, op, none⟩ :: r, s, m, h => opN_mono hΓ (fun s m h => opsN_mono hΓ hk r s m h) h
  | ⟨d, op, some (g, want)⟩ :: r, s, m, h => guardK_mono (fun h => opN_mono hΓ (fun s m h => opsN_mono hΓ hk r s m h) h) (fun h => opsN_mono hΓ hk r _ _ h) h
theorem wpN_mono {P : Program} {G : List Tmp} : ∀ (x : S) {Γ : YEnv} (hΓ : YMono Γ) {Q Q' : KQ} (hq : ∀ e s m, Q e s m → Q' e s m) (s : Fr) (m : Mem), wpN P G x Γ Q s m → wpN P G x Γ Q' s m
  | .skip, Γ, hΓ, Q, Q', hq, s, m, h => hq _ _ _ h
  | .reg ops, Γ, hΓ, Q, Q', hq, s, m, h => opsN_mono (c := ⟨P, G, Γ⟩) hΓ (fun s m h => hq _ _ _ h) ops s m h
  | .regD t, Γ, hΓ, Q, Q', hq, s, m, h => wpT_mono hΓ (fun s m h => hq _ _ _ h) t [] s m h
  | .seq x y, Γ, hΓ, Q, Q', hq, s, m, h => wpN_mono x hΓ (fun e s m h => by
    cases e <;> first | exact wpN_mono y hΓ hq _ _ h | exact hq _ _ _ h) s m h
  | .cond o x y, Γ, hΓ, Q, Q', hq, s, m, h => by
    simp only [wpN, condK] at h ⊢
    split at h
    · exact ⟨fun e => wpN_mono x hΓ hq _ _ (h.1 e), fun e => wpN_mono y hΓ hq _ _ (h.2 e)⟩
    · exact h.elim
  | .block id x, Γ, hΓ, Q, Q', hq, s, m, h => wpN_mono x hΓ (fun e s m h => by
    cases e with
    | exit i =>
      dsimp only at h ⊢
      split at h
      · rename_i e; rw [if_pos e]; exact hq _ _ _ h
      · rename_i e; rw [if_neg e]; exact hq _ _ _ h
    | _ => exact hq _ _ _ h) s m h
  | .scope x, Γ, hΓ, Q, Q', hq, s, m, h => wpN_mono x hΓ (fun e s m h => by cases e <;> first | exact hq _ _ _ h | exact h) s m h
  | .loop x, Γ, hΓ, Q, Q', hq, s, m, ⟨I, n, h0, h1⟩ => ⟨I, n, h0, fun n s m hI => wpN_mono x hΓ (fun e s m h => by cases e <;> first | exact h | exact hq _ _ _ h) s m (h1 n s m hI)⟩
  | .exit id, Γ, hΓ, Q, Q', hq, s, m, h => hq _ _ _ h
  | .ret, Γ, hΓ, Q, Q', hq, s, m, h => hq _ _ _ h
  | .rfunc f ps x y, Γ, hΓ, Q, Q', hq, s, m, ⟨g, first, cap, h1, h2⟩ => ⟨g, first, cap, h1, h2.mono fun v m' h => AfterR_mono hq _ _ _ h⟩

/-- A loop over a function. -/
theorem W_rfunc {c : Cx} (hΓ : YMono c.Γ) {f : Operand} {ps : List Tmp} {x y : S} {ks : List KI} {Q : KQ} {s : Fr} {m : Mem} (g : FuncId) (first cap : Array Value) (hf : evalO s f = .func (.func g) first cap)
    (H : ∀ Γ' : YEnv, YMono Γ' → (∀ args m' K, m'.get m.next = some (.loop .ready none) → args.length = ps.length →
        (∀ Q1 : KQ, (∀ s1 m1, W c y [] (RQ m.next K) s1 m1 → Q1 .normal s1 m1) → W c x [] Q1 (bindP ps args (vals s)) (m'.kill m.next)) → Γ' m.next args m' K) →
      ACalls c.P Γ' g (first.toList ++ [.func (.yield m.next) #[] #[]] ++ cap.toList) (m.new (.loop .ready none)) (fun _ m2 => m2.get m.next = some (.loop .ready none) ∧ We c .normal ks Q s (m2.kill m.next))) :
    W c (.rfunc f ps x y) ks Q s m := by
  refine ⟨g, first, cap, hf, ?_⟩
  refine (H _ (ext_mono hΓ fun args m' K K' hk ⟨h1, h2, h3⟩ => ?_) fun args m' K h1 h2 h3 => .inl ⟨rfl, h1, h2, h3 _ fun s1 m1 h => ⟨rfl, h⟩⟩).mono fun v m2 ⟨h1, h2⟩ => ?_
  · unfold AfterR; rw [h1]; exact h2
  · exact ⟨h1, h2, wpN_mono x hΓ (fun e s m ⟨he, h⟩ => ⟨he, wpN_mono y hΓ (RQ_mono hk) _ _ h⟩) _ _ h3⟩
end Go.Proofs.Ytnhodgonmceojaa.Sh
