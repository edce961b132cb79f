/- What the reference functions of LibraryValues answer, and its body, at every argument. -/
import Derived.Test.YtmdakabianfbkaaGreatL5
set_option linter.unusedVariables false
set_option linter.unusedSimpArgs false
/- Contracts of the reference: con, is, Num. -/
namespace Go.Proofs.L31
open Go Go.AE
set_option linter.unusedVariables false
theorem ris_b {C : Ctx} {c : CallF} {k n : Int} {nm : List Nat} {sk : SK} {es : List AV} {name : List Nat} {m : Int} {h : Nat → AO} {nx : Nat} :
    ∃ t, execX c C false none 36 none x36 ⟨argTmps [.agg [.int .i64 k, .int .i64 n, .str nm, .slice sk es], .str name, .int .i64 m], 28, [], none⟩ ⟨h, nx, []⟩ = some (.ret, ⟨t, 28, [], none⟩, ⟨upd h nx (.mem 38 [.int .i64 k, .int .i64 n, .str nm, .slice sk es] true 0), nx + 1, []⟩) ∧ t 6 = .bool (isT k n nm es.length name m) := by
  unfold isT
  cases e1 : k == 1 <;> cases e2 : n == 0 <;> cases e3 : nm == name <;> (
    simp only [execX_seq, execX_ops, execX_ret, execX_skip, execX_exit, execX_block, execX_ct, execX_cf, seqK_norm, seqK_ret, seqK_exit, seqK_pan, blockK_norm, blockK_ret, blockK_hit, blockK_miss, Option.isSome_none, Option.isSome_some, runX_mv, runX_box, runX_fieldAddr, runX_load, runX_binI, runX_binS, runX_un, runX_pt, runX_pf, runX_lenS, runX_idxS, runX_extract, runX_alloc, runX_store, runX_call, runX_mkFunc, runX_build, runX_buildS, runX_tt, runX_tf, runX_ff, runX_ft, runX_nil, put_mk, put_none, val_t, val_c, push_mk, set_mk, upd_hit, upd_miss, argTmps_at, getD_0, getD_1, getD_2, getD_3, cells_agg, cells_int, cells_bool, cells_str, cells_slice, any_agg, any_int, any_bool, any_str, any_slice, any_ptr, Nat.reduceLT, Nat.reduceLeDiff, Nat.reduceEqDiff, Nat.reduceMul, Nat.reduceAdd, bindS, addrX_ptr, addrX_cptr, ldX_ptr, ldX_cptr, ldO_mem, partX_cell, partX_agg, binIX_int, binSX_str, i_add, i_sub, i_mul, i_eql, i_neq, i_lss, i_leq, i_gtr, i_geq, s_eql, s_neq, lenX_slice, un_not, idxK_some, idxX_slice, idxO_some, natOf_0, natOf_1, natOf_2, natOf_3, natOf_cast, drop0, drop1, drop2, drop3, drop4, zadd, notT, notF, callK_ret, callK_pan, callD_fn, callD_yield, mapv_nil, mapv_cons, app_nil, nil_app, cons_app, stK_some, stoV_ptr, sto_cons, stO_mem, exV_tuple, partsX_cons, partsX_nil, elemsA_nil, elemsA_cons, fillA_nil, fillA_cons, fillK_some, le0, le1, le2, le3, splice0, splice1, splice2, splice3, spliceA, len_nil, len_cons, all_nil, all_cons, ic_int, ic_bool, ic_str, ic_slice, andT, ne_eq, reduceCtorEq, not_false_eq_true, x36, e1, e2, e3, Bool.true_and, Bool.false_and]
    exact ⟨_, rfl, rfl⟩)
theorem ris_c {k n : Int} {nm : List Nat} {sk : SK} {es : List AV} {name : List Nat} {m : Int} {st : St} :
    callW C (.fn 36) [.agg [.int .i64 k, .int .i64 n, .str nm, .slice sk es], .str name, .int .i64 m] .normal st = some (.ret (.bool (isT k n nm es.length name m)), st, none) := by
  obtain ⟨t, h1, h2⟩ := ris_b (C := C) (c := callW C) (k := k) (n := n) (nm := nm) (sk := sk) (es := es) (name := name) (m := m) (h := st.heap) (nx := st.next)
  exact call_clean fn36 (cX rfl) code36 (by kernel_rfl) rfl h1 endOf_ret (by simp only [F36, resA_tmp, resA_nil, Option.map_some, h2]; rfl) rfl rfl (by simp)
theorem rcon_b {C : Ctx} {c : CallF} {nm : List Nat} {sk : SK} {es : List AV} {h : Nat → AO} {nx : Nat} :
    ∃ t, execX c C false none 34 none x34 ⟨argTmps [.str nm, .slice sk es], 8, [], none⟩ ⟨h, nx, []⟩ = some (.ret, ⟨t, 8, [], none⟩, ⟨upd (upd h nx (.mem 38 [.int .i64 0, .int .i64 0, .str [], .slice .nil []] true 0)) nx (.mem 38 [.int .i64 1, .int .i64 0, .str nm, .slice sk es] true 0), nx + 1, [nx]⟩) ∧ t 4 = .ptr nx 0 := by
  simp only [execX_seq, execX_ops, execX_ret, execX_skip, execX_exit, execX_block, execX_ct, execX_cf, seqK_norm, seqK_ret, seqK_exit, seqK_pan, blockK_norm, blockK_ret, blockK_hit, blockK_miss, Option.isSome_none, Option.isSome_some, runX_mv, runX_box, runX_fieldAddr, runX_load, runX_binI, runX_binS, runX_un, runX_pt, runX_pf, runX_lenS, runX_idxS, runX_extract, runX_alloc, runX_store, runX_call, runX_mkFunc, runX_build, runX_buildS, runX_tt, runX_tf, runX_ff, runX_ft, runX_nil, put_mk, put_none, val_t, val_c, push_mk, set_mk, upd_hit, upd_miss, argTmps_at, getD_0, getD_1, getD_2, getD_3, cells_agg, cells_int, cells_bool, cells_str, cells_slice, any_agg, any_int, any_bool, any_str, any_slice, any_ptr, Nat.reduceLT, Nat.reduceLeDiff, Nat.reduceEqDiff, Nat.reduceMul, Nat.reduceAdd, bindS, addrX_ptr, addrX_cptr, ldX_ptr, ldX_cptr, ldO_mem, partX_cell, partX_agg, binIX_int, binSX_str, i_add, i_sub, i_mul, i_eql, i_neq, i_lss, i_leq, i_gtr, i_geq, s_eql, s_neq, lenX_slice, un_not, idxK_some, idxX_slice, idxO_some, natOf_0, natOf_1, natOf_2, natOf_3, natOf_cast, drop0, drop1, drop2, drop3, drop4, zadd, notT, notF, callK_ret, callK_pan, callD_fn, callD_yield, mapv_nil, mapv_cons, app_nil, nil_app, cons_app, stK_some, stoV_ptr, sto_cons, stO_mem, exV_tuple, partsX_cons, partsX_nil, elemsA_nil, elemsA_cons, fillA_nil, fillA_cons, fillK_some, le0, le1, le2, le3, splice0, splice1, splice2, splice3, spliceA, len_nil, len_cons, all_nil, all_cons, ic_int, ic_bool, ic_str, ic_slice, andT, ne_eq, reduceCtorEq, not_false_eq_true, x34]
  exact ⟨_, rfl, rfl⟩
theorem rcon_c {nm : List Nat} {sk : SK} {es : List AV} {st : St} (hc : CleanV (.slice sk es)) :
    callW C (.fn 34) [.str nm, .slice sk es] .normal st = some (.ret (.agg [.int .i64 1, .int .i64 0, .str nm, .slice sk es]), st, none) := by
  obtain ⟨t, h1, h2⟩ := rcon_b (C := C) (c := callW C) (nm := nm) (sk := sk) (es := es) (h := st.heap) (nx := st.next)
  refine call_clean fn34 (cX rfl) code34 (by kernel_rfl) rfl h1 endOf_ret (vs := [.agg [.int .i64 1, .int .i64 0, .str nm, .slice sk es]]) ?_ rfl ?_ (by simp)
  · simp only [F34, resA_cell ty38 h2, resA_nil, Option.map_some, upd_hit, ldO_mem, T38, drop0, bindS]
    rfl
  · simp only [CleanV, bl_agg, bL_cons, bL_nil, bl_int, bl_str, Bool.true_and, Bool.and_true]; exact hc
end Go.Proofs.L31

/- Contracts of the reference: Num. -/
namespace Go.Proofs.L31
open Go Go.AE
set_option linter.unusedVariables false
def RIsOk (c : CallF) : Prop := ∀ k n nm sk es name m st, c (.fn 36) [.agg [.int .i64 k, .int .i64 n, .str nm, .slice sk es], .str name, .int .i64 m] .normal st = some (.ret (.bool (isT k n nm es.length name m)), st, none)
theorem rnum_round {C : Ctx} {c : CallF} (his : RIsOk c) {l1 nx : Nat} {n k n' : Int} {nm : List Nat} {sk : SK} {es cs0 : List AV} {T : Nat → AV} {hp : Nat → AO} {lg : List Nat} (h1 : T 1 = .ptr l1 0) (h4 : T 3 = .int .i64 n) (hn0 : 0 ≤ n) (hn : n < 40)
    (hh : hp l1 = .mem 38 [.int .i64 k, .int .i64 n', .str nm, .slice sk es] true 0) (hb : isT k n' nm es.length [115, 64, 110, 97, 116] 1 = true) (he : es[0]? = some (.agg cs0)) (hlen : cs0.length = 4) (hcell : cs0.all AV.isCell = true) :
    ∃ T', execX c C false none 17 none l17_0 ⟨T, 22, [], none⟩ ⟨hp, nx, lg⟩ = some (.norm, ⟨T', 22, [], none⟩, ⟨upd hp l1 (.mem 38 cs0 true 0), nx, l1 :: lg⟩) ∧ T' 1 = .ptr l1 0 ∧ T' 3 = .int .i64 (n + 1) ∧ T' 2 = T 2 := by
  have hlt : decide (n < 40) = true := dec_true hn
  have hw : IntKind.i64.wrap (n + 1) = n + 1 := wrap64 (by omega) (by omega)
  have ht : cs0.take 4 = cs0 := take_all4 hlen
  have hk := his k n' nm sk es [115, 64, 110, 97, 116] 1 ⟨hp, nx, lg⟩
  rw [hb] at hk
  simp only [execX_seq, execX_ops, execX_ret, execX_skip, execX_exit, execX_block, execX_ct, execX_cf, seqK_norm, seqK_ret, seqK_exit, seqK_pan, blockK_norm, blockK_ret, blockK_hit, blockK_miss, Option.isSome_none, Option.isSome_some, runX_mv, runX_box, runX_fieldAddr, runX_load, runX_binI, runX_binS, runX_un, runX_pt, runX_pf, runX_lenS, runX_idxS, runX_extract, runX_alloc, runX_store, runX_call, runX_mkFunc, runX_build, runX_buildS, runX_tt, runX_tf, runX_ff, runX_ft, runX_nil, put_mk, put_none, val_t, val_c, push_mk, set_mk, upd_hit, upd_miss, argTmps_at, getD_0, getD_1, getD_2, getD_3, cells_agg, cells_int, cells_bool, cells_str, cells_slice, any_agg, any_int, any_bool, any_str, any_slice, any_ptr, Nat.reduceLT, Nat.reduceLeDiff, Nat.reduceEqDiff, Nat.reduceMul, Nat.reduceAdd, bindS, addrX_ptr, addrX_cptr, ldX_ptr, ldX_cptr, ldO_mem, partX_cell, partX_agg, binIX_int, binSX_str, i_add, i_sub, i_mul, i_eql, i_neq, i_lss, i_leq, i_gtr, i_geq, s_eql, s_neq, lenX_slice, un_not, idxK_some, idxX_slice, idxO_some, natOf_0, natOf_1, natOf_2, natOf_3, natOf_cast, drop0, drop1, drop2, drop3, drop4, zadd, notT, notF, callK_ret, callK_pan, callD_fn, callD_yield, mapv_nil, mapv_cons, app_nil, nil_app, cons_app, stK_some, stoV_ptr, sto_cons, stO_mem, exV_tuple, partsX_cons, partsX_nil, elemsA_nil, elemsA_cons, fillA_nil, fillA_cons, fillK_some, le0, le1, le2, le3, splice0, splice1, splice2, splice3, spliceA, len_nil, len_cons, all_nil, all_cons, ic_int, ic_bool, ic_str, ic_slice, andT, ne_eq, reduceCtorEq, not_false_eq_true, l17_0, h1, h4, hh, hk, hlt, hw, he, hlen, ht, hcell, sto_pos, List.take_succ_cons, List.take_zero]
  exact ⟨_, rfl, by simp only [execX_seq, execX_ops, execX_ret, execX_skip, execX_exit, execX_block, execX_ct, execX_cf, seqK_norm, seqK_ret, seqK_exit, seqK_pan, blockK_norm, blockK_ret, blockK_hit, blockK_miss, Option.isSome_none, Option.isSome_some, runX_mv, runX_box, runX_fieldAddr, runX_load, runX_binI, runX_binS, runX_un, runX_pt, runX_pf, runX_lenS, runX_idxS, runX_extract, runX_alloc, runX_store, runX_call, runX_mkFunc, runX_build, runX_buildS, runX_tt, runX_tf, runX_ff, runX_ft, runX_nil, put_mk, put_none, val_t, val_c, push_mk, set_mk, upd_hit, upd_miss, argTmps_at, getD_0, getD_1, getD_2, getD_3, cells_agg, cells_int, cells_bool, cells_str, cells_slice, any_agg, any_int, any_bool, any_str, any_slice, any_ptr, Nat.reduceLT, Nat.reduceLeDiff, Nat.reduceEqDiff, Nat.reduceMul, Nat.reduceAdd, bindS, addrX_ptr, addrX_cptr, ldX_ptr, ldX_cptr, ldO_mem, partX_cell, partX_agg, binIX_int, binSX_str, i_add, i_sub, i_mul, i_eql, i_neq, i_lss, i_leq, i_gtr, i_geq, s_eql, s_neq, lenX_slice, un_not, idxK_some, idxX_slice, idxO_some, natOf_0, natOf_1, natOf_2, natOf_3, natOf_cast, drop0, drop1, drop2, drop3, drop4, zadd, notT, notF, callK_ret, callK_pan, callD_fn, callD_yield, mapv_nil, mapv_cons, app_nil, nil_app, cons_app, stK_some, stoV_ptr, sto_cons, stO_mem, exV_tuple, partsX_cons, partsX_nil, elemsA_nil, elemsA_cons, fillA_nil, fillA_cons, fillK_some, le0, le1, le2, le3, splice0, splice1, splice2, splice3, spliceA, len_nil, len_cons, all_nil, all_cons, ic_int, ic_bool, ic_str, ic_slice, andT, ne_eq, reduceCtorEq, not_false_eq_true, h1], by simp only [execX_seq, execX_ops, execX_ret, execX_skip, execX_exit, execX_block, execX_ct, execX_cf, seqK_norm, seqK_ret, seqK_exit, seqK_pan, blockK_norm, blockK_ret, blockK_hit, blockK_miss, Option.isSome_none, Option.isSome_some, runX_mv, runX_box, runX_fieldAddr, runX_load, runX_binI, runX_binS, runX_un, runX_pt, runX_pf, runX_lenS, runX_idxS, runX_extract, runX_alloc, runX_store, runX_call, runX_mkFunc, runX_build, runX_buildS, runX_tt, runX_tf, runX_ff, runX_ft, runX_nil, put_mk, put_none, val_t, val_c, push_mk, set_mk, upd_hit, upd_miss, argTmps_at, getD_0, getD_1, getD_2, getD_3, cells_agg, cells_int, cells_bool, cells_str, cells_slice, any_agg, any_int, any_bool, any_str, any_slice, any_ptr, Nat.reduceLT, Nat.reduceLeDiff, Nat.reduceEqDiff, Nat.reduceMul, Nat.reduceAdd, bindS, addrX_ptr, addrX_cptr, ldX_ptr, ldX_cptr, ldO_mem, partX_cell, partX_agg, binIX_int, binSX_str, i_add, i_sub, i_mul, i_eql, i_neq, i_lss, i_leq, i_gtr, i_geq, s_eql, s_neq, lenX_slice, un_not, idxK_some, idxX_slice, idxO_some, natOf_0, natOf_1, natOf_2, natOf_3, natOf_cast, drop0, drop1, drop2, drop3, drop4, zadd, notT, notF, callK_ret, callK_pan, callD_fn, callD_yield, mapv_nil, mapv_cons, app_nil, nil_app, cons_app, stK_some, stoV_ptr, sto_cons, stO_mem, exV_tuple, partsX_cons, partsX_nil, elemsA_nil, elemsA_cons, fillA_nil, fillA_cons, fillK_some, le0, le1, le2, le3, splice0, splice1, splice2, splice3, spliceA, len_nil, len_cons, all_nil, all_cons, ic_int, ic_bool, ic_str, ic_slice, andT, ne_eq, reduceCtorEq, not_false_eq_true], by simp only [execX_seq, execX_ops, execX_ret, execX_skip, execX_exit, execX_block, execX_ct, execX_cf, seqK_norm, seqK_ret, seqK_exit, seqK_pan, blockK_norm, blockK_ret, blockK_hit, blockK_miss, Option.isSome_none, Option.isSome_some, runX_mv, runX_box, runX_fieldAddr, runX_load, runX_binI, runX_binS, runX_un, runX_pt, runX_pf, runX_lenS, runX_idxS, runX_extract, runX_alloc, runX_store, runX_call, runX_mkFunc, runX_build, runX_buildS, runX_tt, runX_tf, runX_ff, runX_ft, runX_nil, put_mk, put_none, val_t, val_c, push_mk, set_mk, upd_hit, upd_miss, argTmps_at, getD_0, getD_1, getD_2, getD_3, cells_agg, cells_int, cells_bool, cells_str, cells_slice, any_agg, any_int, any_bool, any_str, any_slice, any_ptr, Nat.reduceLT, Nat.reduceLeDiff, Nat.reduceEqDiff, Nat.reduceMul, Nat.reduceAdd, bindS, addrX_ptr, addrX_cptr, ldX_ptr, ldX_cptr, ldO_mem, partX_cell, partX_agg, binIX_int, binSX_str, i_add, i_sub, i_mul, i_eql, i_neq, i_lss, i_leq, i_gtr, i_geq, s_eql, s_neq, lenX_slice, un_not, idxK_some, idxX_slice, idxO_some, natOf_0, natOf_1, natOf_2, natOf_3, natOf_cast, drop0, drop1, drop2, drop3, drop4, zadd, notT, notF, callK_ret, callK_pan, callD_fn, callD_yield, mapv_nil, mapv_cons, app_nil, nil_app, cons_app, stK_some, stoV_ptr, sto_cons, stO_mem, exV_tuple, partsX_cons, partsX_nil, elemsA_nil, elemsA_cons, fillA_nil, fillA_cons, fillK_some, le0, le1, le2, le3, splice0, splice1, splice2, splice3, spliceA, len_nil, len_cons, all_nil, all_cons, ic_int, ic_bool, ic_str, ic_slice, andT, ne_eq, reduceCtorEq, not_false_eq_true]⟩

theorem rnum_stop {C : Ctx} {c : CallF} (his : RIsOk c) {l1 : Nat} {n k n' : Int} {nm : List Nat} {sk : SK} {es : List AV} {T : Nat → AV} {st : St} (h1 : T 1 = .ptr l1 0) (h4 : T 3 = .int .i64 n)
    (hh : st.heap l1 = .mem 38 [.int .i64 k, .int .i64 n', .str nm, .slice sk es] true 0) (hb : isT k n' nm es.length [115, 64, 110, 97, 116] 1 = false ∨ 40 ≤ n) :
    ∃ T', execX c C false none 17 none l17_0 ⟨T, 22, [], none⟩ st = some (.exit 0, ⟨T', 22, [], none⟩, st) ∧ T' 1 = T 1 ∧ T' 3 = T 3 ∧ T' 2 = T 2 := by
  have hk := his k n' nm sk es [115, 64, 110, 97, 116] 1 st
  cases hq : isT k n' nm es.length [115, 64, 110, 97, 116] 1 with
  | false =>
    rw [hq] at hk
    simp only [execX_seq, execX_ops, execX_ret, execX_skip, execX_exit, execX_block, execX_ct, execX_cf, seqK_norm, seqK_ret, seqK_exit, seqK_pan, blockK_norm, blockK_ret, blockK_hit, blockK_miss, Option.isSome_none, Option.isSome_some, runX_mv, runX_box, runX_fieldAddr, runX_load, runX_binI, runX_binS, runX_un, runX_pt, runX_pf, runX_lenS, runX_idxS, runX_extract, runX_alloc, runX_store, runX_call, runX_mkFunc, runX_build, runX_buildS, runX_tt, runX_tf, runX_ff, runX_ft, runX_nil, put_mk, put_none, val_t, val_c, push_mk, set_mk, upd_hit, upd_miss, argTmps_at, getD_0, getD_1, getD_2, getD_3, cells_agg, cells_int, cells_bool, cells_str, cells_slice, any_agg, any_int, any_bool, any_str, any_slice, any_ptr, Nat.reduceLT, Nat.reduceLeDiff, Nat.reduceEqDiff, Nat.reduceMul, Nat.reduceAdd, bindS, addrX_ptr, addrX_cptr, ldX_ptr, ldX_cptr, ldO_mem, partX_cell, partX_agg, binIX_int, binSX_str, i_add, i_sub, i_mul, i_eql, i_neq, i_lss, i_leq, i_gtr, i_geq, s_eql, s_neq, lenX_slice, un_not, idxK_some, idxX_slice, idxO_some, natOf_0, natOf_1, natOf_2, natOf_3, natOf_cast, drop0, drop1, drop2, drop3, drop4, zadd, notT, notF, callK_ret, callK_pan, callD_fn, callD_yield, mapv_nil, mapv_cons, app_nil, nil_app, cons_app, stK_some, stoV_ptr, sto_cons, stO_mem, exV_tuple, partsX_cons, partsX_nil, elemsA_nil, elemsA_cons, fillA_nil, fillA_cons, fillK_some, le0, le1, le2, le3, splice0, splice1, splice2, splice3, spliceA, len_nil, len_cons, all_nil, all_cons, ic_int, ic_bool, ic_str, ic_slice, andT, ne_eq, reduceCtorEq, not_false_eq_true, l17_0, h1, h4, hh, hk, List.take_succ_cons, List.take_zero]
    exact ⟨_, rfl, by simp only [execX_seq, execX_ops, execX_ret, execX_skip, execX_exit, execX_block, execX_ct, execX_cf, seqK_norm, seqK_ret, seqK_exit, seqK_pan, blockK_norm, blockK_ret, blockK_hit, blockK_miss, Option.isSome_none, Option.isSome_some, runX_mv, runX_box, runX_fieldAddr, runX_load, runX_binI, runX_binS, runX_un, runX_pt, runX_pf, runX_lenS, runX_idxS, runX_extract, runX_alloc, runX_store, runX_call, runX_mkFunc, runX_build, runX_buildS, runX_tt, runX_tf, runX_ff, runX_ft, runX_nil, put_mk, put_none, val_t, val_c, push_mk, set_mk, upd_hit, upd_miss, argTmps_at, getD_0, getD_1, getD_2, getD_3, cells_agg, cells_int, cells_bool, cells_str, cells_slice, any_agg, any_int, any_bool, any_str, any_slice, any_ptr, Nat.reduceLT, Nat.reduceLeDiff, Nat.reduceEqDiff, Nat.reduceMul, Nat.reduceAdd, bindS, addrX_ptr, addrX_cptr, ldX_ptr, ldX_cptr, ldO_mem, partX_cell, partX_agg, binIX_int, binSX_str, i_add, i_sub, i_mul, i_eql, i_neq, i_lss, i_leq, i_gtr, i_geq, s_eql, s_neq, lenX_slice, un_not, idxK_some, idxX_slice, idxO_some, natOf_0, natOf_1, natOf_2, natOf_3, natOf_cast, drop0, drop1, drop2, drop3, drop4, zadd, notT, notF, callK_ret, callK_pan, callD_fn, callD_yield, mapv_nil, mapv_cons, app_nil, nil_app, cons_app, stK_some, stoV_ptr, sto_cons, stO_mem, exV_tuple, partsX_cons, partsX_nil, elemsA_nil, elemsA_cons, fillA_nil, fillA_cons, fillK_some, le0, le1, le2, le3, splice0, splice1, splice2, splice3, spliceA, len_nil, len_cons, all_nil, all_cons, ic_int, ic_bool, ic_str, ic_slice, andT, ne_eq, reduceCtorEq, not_false_eq_true, h1], by simp only [execX_seq, execX_ops, execX_ret, execX_skip, execX_exit, execX_block, execX_ct, execX_cf, seqK_norm, seqK_ret, seqK_exit, seqK_pan, blockK_norm, blockK_ret, blockK_hit, blockK_miss, Option.isSome_none, Option.isSome_some, runX_mv, runX_box, runX_fieldAddr, runX_load, runX_binI, runX_binS, runX_un, runX_pt, runX_pf, runX_lenS, runX_idxS, runX_extract, runX_alloc, runX_store, runX_call, runX_mkFunc, runX_build, runX_buildS, runX_tt, runX_tf, runX_ff, runX_ft, runX_nil, put_mk, put_none, val_t, val_c, push_mk, set_mk, upd_hit, upd_miss, argTmps_at, getD_0, getD_1, getD_2, getD_3, cells_agg, cells_int, cells_bool, cells_str, cells_slice, any_agg, any_int, any_bool, any_str, any_slice, any_ptr, Nat.reduceLT, Nat.reduceLeDiff, Nat.reduceEqDiff, Nat.reduceMul, Nat.reduceAdd, bindS, addrX_ptr, addrX_cptr, ldX_ptr, ldX_cptr, ldO_mem, partX_cell, partX_agg, binIX_int, binSX_str, i_add, i_sub, i_mul, i_eql, i_neq, i_lss, i_leq, i_gtr, i_geq, s_eql, s_neq, lenX_slice, un_not, idxK_some, idxX_slice, idxO_some, natOf_0, natOf_1, natOf_2, natOf_3, natOf_cast, drop0, drop1, drop2, drop3, drop4, zadd, notT, notF, callK_ret, callK_pan, callD_fn, callD_yield, mapv_nil, mapv_cons, app_nil, nil_app, cons_app, stK_some, stoV_ptr, sto_cons, stO_mem, exV_tuple, partsX_cons, partsX_nil, elemsA_nil, elemsA_cons, fillA_nil, fillA_cons, fillK_some, le0, le1, le2, le3, splice0, splice1, splice2, splice3, spliceA, len_nil, len_cons, all_nil, all_cons, ic_int, ic_bool, ic_str, ic_slice, andT, ne_eq, reduceCtorEq, not_false_eq_true, h4], by simp only [execX_seq, execX_ops, execX_ret, execX_skip, execX_exit, execX_block, execX_ct, execX_cf, seqK_norm, seqK_ret, seqK_exit, seqK_pan, blockK_norm, blockK_ret, blockK_hit, blockK_miss, Option.isSome_none, Option.isSome_some, runX_mv, runX_box, runX_fieldAddr, runX_load, runX_binI, runX_binS, runX_un, runX_pt, runX_pf, runX_lenS, runX_idxS, runX_extract, runX_alloc, runX_store, runX_call, runX_mkFunc, runX_build, runX_buildS, runX_tt, runX_tf, runX_ff, runX_ft, runX_nil, put_mk, put_none, val_t, val_c, push_mk, set_mk, upd_hit, upd_miss, argTmps_at, getD_0, getD_1, getD_2, getD_3, cells_agg, cells_int, cells_bool, cells_str, cells_slice, any_agg, any_int, any_bool, any_str, any_slice, any_ptr, Nat.reduceLT, Nat.reduceLeDiff, Nat.reduceEqDiff, Nat.reduceMul, Nat.reduceAdd, bindS, addrX_ptr, addrX_cptr, ldX_ptr, ldX_cptr, ldO_mem, partX_cell, partX_agg, binIX_int, binSX_str, i_add, i_sub, i_mul, i_eql, i_neq, i_lss, i_leq, i_gtr, i_geq, s_eql, s_neq, lenX_slice, un_not, idxK_some, idxX_slice, idxO_some, natOf_0, natOf_1, natOf_2, natOf_3, natOf_cast, drop0, drop1, drop2, drop3, drop4, zadd, notT, notF, callK_ret, callK_pan, callD_fn, callD_yield, mapv_nil, mapv_cons, app_nil, nil_app, cons_app, stK_some, stoV_ptr, sto_cons, stO_mem, exV_tuple, partsX_cons, partsX_nil, elemsA_nil, elemsA_cons, fillA_nil, fillA_cons, fillK_some, le0, le1, le2, le3, splice0, splice1, splice2, splice3, spliceA, len_nil, len_cons, all_nil, all_cons, ic_int, ic_bool, ic_str, ic_slice, andT, ne_eq, reduceCtorEq, not_false_eq_true]⟩
  | true =>
    rw [hq] at hk hb
    have hlt : decide (n < 40) = false := dec_false (by rcases hb with h | h; cases h; omega)
    simp only [execX_seq, execX_ops, execX_ret, execX_skip, execX_exit, execX_block, execX_ct, execX_cf, seqK_norm, seqK_ret, seqK_exit, seqK_pan, blockK_norm, blockK_ret, blockK_hit, blockK_miss, Option.isSome_none, Option.isSome_some, runX_mv, runX_box, runX_fieldAddr, runX_load, runX_binI, runX_binS, runX_un, runX_pt, runX_pf, runX_lenS, runX_idxS, runX_extract, runX_alloc, runX_store, runX_call, runX_mkFunc, runX_build, runX_buildS, runX_tt, runX_tf, runX_ff, runX_ft, runX_nil, put_mk, put_none, val_t, val_c, push_mk, set_mk, upd_hit, upd_miss, argTmps_at, getD_0, getD_1, getD_2, getD_3, cells_agg, cells_int, cells_bool, cells_str, cells_slice, any_agg, any_int, any_bool, any_str, any_slice, any_ptr, Nat.reduceLT, Nat.reduceLeDiff, Nat.reduceEqDiff, Nat.reduceMul, Nat.reduceAdd, bindS, addrX_ptr, addrX_cptr, ldX_ptr, ldX_cptr, ldO_mem, partX_cell, partX_agg, binIX_int, binSX_str, i_add, i_sub, i_mul, i_eql, i_neq, i_lss, i_leq, i_gtr, i_geq, s_eql, s_neq, lenX_slice, un_not, idxK_some, idxX_slice, idxO_some, natOf_0, natOf_1, natOf_2, natOf_3, natOf_cast, drop0, drop1, drop2, drop3, drop4, zadd, notT, notF, callK_ret, callK_pan, callD_fn, callD_yield, mapv_nil, mapv_cons, app_nil, nil_app, cons_app, stK_some, stoV_ptr, sto_cons, stO_mem, exV_tuple, partsX_cons, partsX_nil, elemsA_nil, elemsA_cons, fillA_nil, fillA_cons, fillK_some, le0, le1, le2, le3, splice0, splice1, splice2, splice3, spliceA, len_nil, len_cons, all_nil, all_cons, ic_int, ic_bool, ic_str, ic_slice, andT, ne_eq, reduceCtorEq, not_false_eq_true, l17_0, h1, h4, hh, hk, hlt, List.take_succ_cons, List.take_zero]
    exact ⟨_, rfl, by simp only [execX_seq, execX_ops, execX_ret, execX_skip, execX_exit, execX_block, execX_ct, execX_cf, seqK_norm, seqK_ret, seqK_exit, seqK_pan, blockK_norm, blockK_ret, blockK_hit, blockK_miss, Option.isSome_none, Option.isSome_some, runX_mv, runX_box, runX_fieldAddr, runX_load, runX_binI, runX_binS, runX_un, runX_pt, runX_pf, runX_lenS, runX_idxS, runX_extract, runX_alloc, runX_store, runX_call, runX_mkFunc, runX_build, runX_buildS, runX_tt, runX_tf, runX_ff, runX_ft, runX_nil, put_mk, put_none, val_t, val_c, push_mk, set_mk, upd_hit, upd_miss, argTmps_at, getD_0, getD_1, getD_2, getD_3, cells_agg, cells_int, cells_bool, cells_str, cells_slice, any_agg, any_int, any_bool, any_str, any_slice, any_ptr, Nat.reduceLT, Nat.reduceLeDiff, Nat.reduceEqDiff, Nat.reduceMul, Nat.reduceAdd, bindS, addrX_ptr, addrX_cptr, ldX_ptr, ldX_cptr, ldO_mem, partX_cell, partX_agg, binIX_int, binSX_str, i_add, i_sub, i_mul, i_eql, i_neq, i_lss, i_leq, i_gtr, i_geq, s_eql, s_neq, lenX_slice, un_not, idxK_some, idxX_slice, idxO_some, natOf_0, natOf_1, natOf_2, natOf_3, natOf_cast, drop0, drop1, drop2, drop3, drop4, zadd, notT, notF, callK_ret, callK_pan, callD_fn, callD_yield, mapv_nil, mapv_cons, app_nil, nil_app, cons_app, stK_some, stoV_ptr, sto_cons, stO_mem, exV_tuple, partsX_cons, partsX_nil, elemsA_nil, elemsA_cons, fillA_nil, fillA_cons, fillK_some, le0, le1, le2, le3, splice0, splice1, splice2, splice3, spliceA, len_nil, len_cons, all_nil, all_cons, ic_int, ic_bool, ic_str, ic_slice, andT, ne_eq, reduceCtorEq, not_false_eq_true, h1], by simp only [execX_seq, execX_ops, execX_ret, execX_skip, execX_exit, execX_block, execX_ct, execX_cf, seqK_norm, seqK_ret, seqK_exit, seqK_pan, blockK_norm, blockK_ret, blockK_hit, blockK_miss, Option.isSome_none, Option.isSome_some, runX_mv, runX_box, runX_fieldAddr, runX_load, runX_binI, runX_binS, runX_un, runX_pt, runX_pf, runX_lenS, runX_idxS, runX_extract, runX_alloc, runX_store, runX_call, runX_mkFunc, runX_build, runX_buildS, runX_tt, runX_tf, runX_ff, runX_ft, runX_nil, put_mk, put_none, val_t, val_c, push_mk, set_mk, upd_hit, upd_miss, argTmps_at, getD_0, getD_1, getD_2, getD_3, cells_agg, cells_int, cells_bool, cells_str, cells_slice, any_agg, any_int, any_bool, any_str, any_slice, any_ptr, Nat.reduceLT, Nat.reduceLeDiff, Nat.reduceEqDiff, Nat.reduceMul, Nat.reduceAdd, bindS, addrX_ptr, addrX_cptr, ldX_ptr, ldX_cptr, ldO_mem, partX_cell, partX_agg, binIX_int, binSX_str, i_add, i_sub, i_mul, i_eql, i_neq, i_lss, i_leq, i_gtr, i_geq, s_eql, s_neq, lenX_slice, un_not, idxK_some, idxX_slice, idxO_some, natOf_0, natOf_1, natOf_2, natOf_3, natOf_cast, drop0, drop1, drop2, drop3, drop4, zadd, notT, notF, callK_ret, callK_pan, callD_fn, callD_yield, mapv_nil, mapv_cons, app_nil, nil_app, cons_app, stK_some, stoV_ptr, sto_cons, stO_mem, exV_tuple, partsX_cons, partsX_nil, elemsA_nil, elemsA_cons, fillA_nil, fillA_cons, fillK_some, le0, le1, le2, le3, splice0, splice1, splice2, splice3, spliceA, len_nil, len_cons, all_nil, all_cons, ic_int, ic_bool, ic_str, ic_slice, andT, ne_eq, reduceCtorEq, not_false_eq_true, h4], by simp only [execX_seq, execX_ops, execX_ret, execX_skip, execX_exit, execX_block, execX_ct, execX_cf, seqK_norm, seqK_ret, seqK_exit, seqK_pan, blockK_norm, blockK_ret, blockK_hit, blockK_miss, Option.isSome_none, Option.isSome_some, runX_mv, runX_box, runX_fieldAddr, runX_load, runX_binI, runX_binS, runX_un, runX_pt, runX_pf, runX_lenS, runX_idxS, runX_extract, runX_alloc, runX_store, runX_call, runX_mkFunc, runX_build, runX_buildS, runX_tt, runX_tf, runX_ff, runX_ft, runX_nil, put_mk, put_none, val_t, val_c, push_mk, set_mk, upd_hit, upd_miss, argTmps_at, getD_0, getD_1, getD_2, getD_3, cells_agg, cells_int, cells_bool, cells_str, cells_slice, any_agg, any_int, any_bool, any_str, any_slice, any_ptr, Nat.reduceLT, Nat.reduceLeDiff, Nat.reduceEqDiff, Nat.reduceMul, Nat.reduceAdd, bindS, addrX_ptr, addrX_cptr, ldX_ptr, ldX_cptr, ldO_mem, partX_cell, partX_agg, binIX_int, binSX_str, i_add, i_sub, i_mul, i_eql, i_neq, i_lss, i_leq, i_gtr, i_geq, s_eql, s_neq, lenX_slice, un_not, idxK_some, idxX_slice, idxO_some, natOf_0, natOf_1, natOf_2, natOf_3, natOf_cast, drop0, drop1, drop2, drop3, drop4, zadd, notT, notF, callK_ret, callK_pan, callD_fn, callD_yield, mapv_nil, mapv_cons, app_nil, nil_app, cons_app, stK_some, stoV_ptr, sto_cons, stO_mem, exV_tuple, partsX_cons, partsX_nil, elemsA_nil, elemsA_cons, fillA_nil, fillA_cons, fillK_some, le0, le1, le2, le3, splice0, splice1, splice2, splice3, spliceA, len_nil, len_cons, all_nil, all_cons, ic_int, ic_bool, ic_str, ic_slice, andT, ne_eq, reduceCtorEq, not_false_eq_true]⟩

theorem rnum_loop {C : Ctx} {c : CallF} (his : RIsOk c) {l1 nx : Nat} : ∀ (f : Nat) (n : Int) (t : Tm) (cs : List AV) (T : Nat → AV) (hp : Nat → AO) (lg : List Nat), 0 ≤ n → n + f = 40 → T 1 = .ptr l1 0 → T 3 = .int .i64 n → TmV (.agg cs) t → hp l1 = .mem 38 cs true 0 →
    ∃ T' hp' lg' n' cs' t', execX c C false none 17 none (.loop l17_0) ⟨T, 22, [], none⟩ ⟨hp, nx, lg⟩ = some (.exit 0, ⟨T', 22, [], none⟩, ⟨hp', nx, lg'⟩) ∧ T' 1 = .ptr l1 0 ∧ T' 3 = .int .i64 n' ∧ TmV (.agg cs') t' ∧ hp' l1 = .mem 38 cs' true 0 ∧
      (∀ l ∈ lg', l ∈ lg ∨ l = l1) ∧ (T' 2 = T 2 ∧ ∀ l, l ≠ l1 → hp' l = hp l) ∧ numF f n t = (if t'.is k_z 0 then (n', true) else (0, false)) := by
  intro f
  induction f with
  | zero =>
    intro n t cs T hp lg hn hf h1 h4 hv hh
    obtain ⟨k, n', nm, sk, es, args, e1, e2, e3, e4, e5⟩ := hv.shape
    injection e1 with e1
    subst e1 e2
    obtain ⟨T', f1, f2, f3, f4⟩ := rnum_stop (C := C) (st := ⟨hp, nx, lg⟩) his h1 h4 hh (.inr (by omega))
    rw [execX_loop, f1, bindS, seqK_exit]
    exact ⟨T', hp, lg, n, _, _, rfl, by rw [f2, h1], by rw [f3, h4], hv, hh, fun l h => .inl h, ⟨f4, fun _ _ => rfl⟩, rfl⟩
  | succ f ih =>
    intro n t cs T hp lg hn hf h1 h4 hv hh
    obtain ⟨k, n', nm, sk, es, args, e1, e2, e3, e4, e5⟩ := hv.shape
    injection e1 with e1
    subst e1 e2
    cases hq : isT k n' nm es.length [115, 64, 110, 97, 116] 1 with
    | false =>
      obtain ⟨T', f1, f2, f3, f4⟩ := rnum_stop (C := C) (st := ⟨hp, nx, lg⟩) his h1 h4 hh (.inl hq)
      rw [execX_loop, f1, bindS, seqK_exit]
      refine ⟨T', hp, lg, n, _, _, rfl, by rw [f2, h1], by rw [f3, h4], hv, hh, fun l h => .inl h, ⟨f4, fun _ _ => rfl⟩, ?_⟩
      have : Tm.is (.mk k n' nm args) k_s 1 = false := by simp only [Tm.is, ← e4]; exact hq
      simp only [numF, this, Bool.false_eq_true, if_false]
    | true =>
      have hl1 : es.length = 1 := isT_len (m := 1) hq
      obtain ⟨e0, he0⟩ : ∃ e0, es[0]? = some e0 := ⟨_, List.getElem?_eq_getElem (by omega)⟩
      obtain ⟨t0, ht0⟩ : ∃ t0, args[0]? = some t0 := ⟨_, List.getElem?_eq_getElem (by omega)⟩
      have hv0 := e5 0 e0 t0 he0 ht0
      obtain ⟨k0, n0, nm0, sk0, es0, args0, g1, g2, g3, g4, g5⟩ := hv0.shape
      obtain ⟨cs0, rfl⟩ : ∃ cs0, e0 = .agg cs0 := ⟨_, g1⟩
      have hc0 : cs0.length = 4 ∧ cs0.all AV.isCell = true := by
        injection g1 with g1
        rw [g1]
        exact ⟨rfl, rfl⟩
      obtain ⟨T1, f1, f2, f3, f4⟩ := rnum_round (C := C) (nx := nx) (lg := lg) his h1 h4 hn (by omega) hh hq he0 hc0.1 hc0.2
      rw [execX_loop, f1, bindS, seqK_norm]
      obtain ⟨T', hp', lg', n2, cs', t', r1, r2, r3, r4, r5, r6, ⟨r8, r9⟩, r7⟩ := ih (n + 1) t0 cs0 T1 _ (l1 :: lg) (by omega) (by omega) f2 f3 hv0 upd_hit
      refine ⟨T', hp', lg', n2, cs', t', r1, r2, r3, r4, r5, fun l hl => ?_, ⟨r8.trans f4, fun l hl => by rw [r9 l hl, upd_ne _ _ hl]⟩, ?_⟩
      · rcases r6 l hl with h | h
        · rcases List.mem_cons.1 h with h | h
          · exact .inr h
          · exact .inl h
        · exact .inr h
      · have h1 : Tm.is (.mk k n' nm args) k_s 1 = true := by simp only [Tm.is, ← e4]; exact hq
        have h2 : Tm.arg (.mk k n' nm args) 0 = t0 := by simp only [Tm.arg, List.getD_eq_getElem?_getD, ht0, Option.getD_some]
        simp only [numF, h1, if_true, h2]
        exact r7


end Go.Proofs.L31

/- Contracts of the reference: Num. -/
namespace Go.Proofs.L31
open Go Go.AE
set_option linter.unusedVariables false
theorem rnum_b {C : Ctx} {c : CallF} (his : RIsOk c) {t : Tm} {cs : List AV} (hv : TmV (.agg cs) t) {h : Nat → AO} {nx : Nat} :
    ∃ T hp lg, execX c C false none 17 none x17 ⟨argTmps [.agg cs], 22, [], none⟩ ⟨h, nx, []⟩ = some (.ret, ⟨T, 22, [], none⟩, ⟨hp, nx + 1 + 1, lg⟩) ∧ T 2 = .ptr (nx + 1) 0 ∧ hp (nx + 1) = .mem 51 [.int .i64 (numF 40 0 t).1, .bool (numF 40 0 t).2] true 0 ∧ ∀ l ∈ lg, nx ≤ l := by
  simp only [execX_seq, execX_ops, execX_ret, execX_skip, execX_exit, execX_block, execX_ct, execX_cf, seqK_norm, seqK_ret, seqK_exit, seqK_pan, blockK_norm, blockK_ret, blockK_hit, blockK_miss, Option.isSome_none, Option.isSome_some, runX_mv, runX_box, runX_fieldAddr, runX_load, runX_binI, runX_binS, runX_un, runX_pt, runX_pf, runX_lenS, runX_idxS, runX_extract, runX_alloc, runX_store, runX_call, runX_mkFunc, runX_build, runX_buildS, runX_tt, runX_tf, runX_ff, runX_ft, runX_nil, put_mk, put_none, val_t, val_c, push_mk, set_mk, upd_hit, upd_miss, argTmps_at, getD_0, getD_1, getD_2, getD_3, cells_agg, cells_int, cells_bool, cells_str, cells_slice, any_agg, any_int, any_bool, any_str, any_slice, any_ptr, Nat.reduceLT, Nat.reduceLeDiff, Nat.reduceEqDiff, Nat.reduceMul, Nat.reduceAdd, bindS, addrX_ptr, addrX_cptr, ldX_ptr, ldX_cptr, ldO_mem, partX_cell, partX_agg, binIX_int, binSX_str, i_add, i_sub, i_mul, i_eql, i_neq, i_lss, i_leq, i_gtr, i_geq, s_eql, s_neq, lenX_slice, un_not, idxK_some, idxX_slice, idxO_some, natOf_0, natOf_1, natOf_2, natOf_3, natOf_cast, drop0, drop1, drop2, drop3, drop4, zadd, notT, notF, callK_ret, callK_pan, callD_fn, callD_yield, mapv_nil, mapv_cons, app_nil, nil_app, cons_app, stK_some, stoV_ptr, sto_cons, stO_mem, exV_tuple, partsX_cons, partsX_nil, elemsA_nil, elemsA_cons, fillA_nil, fillA_cons, fillK_some, le0, le1, le2, le3, splice0, splice1, splice2, splice3, spliceA, len_nil, len_cons, all_nil, all_cons, ic_int, ic_bool, ic_str, ic_slice, andT, ne_eq, reduceCtorEq, not_false_eq_true, x17]
  generalize hF : Fr.mk _ 22 [] none = F
  obtain ⟨T, rfl⟩ : ∃ T, F = ⟨T, 22, [], none⟩ := ⟨_, hF.symm⟩
  have hT := (Fr.mk.inj hF).1
  have q0 : T 2 = .ptr (nx + 1) 0 := by rw [← hT]; simp only [execX_seq, execX_ops, execX_ret, execX_skip, execX_exit, execX_block, execX_ct, execX_cf, seqK_norm, seqK_ret, seqK_exit, seqK_pan, blockK_norm, blockK_ret, blockK_hit, blockK_miss, Option.isSome_none, Option.isSome_some, runX_mv, runX_box, runX_fieldAddr, runX_load, runX_binI, runX_binS, runX_un, runX_pt, runX_pf, runX_lenS, runX_idxS, runX_extract, runX_alloc, runX_store, runX_call, runX_mkFunc, runX_build, runX_buildS, runX_tt, runX_tf, runX_ff, runX_ft, runX_nil, put_mk, put_none, val_t, val_c, push_mk, set_mk, upd_hit, upd_miss, argTmps_at, getD_0, getD_1, getD_2, getD_3, cells_agg, cells_int, cells_bool, cells_str, cells_slice, any_agg, any_int, any_bool, any_str, any_slice, any_ptr, Nat.reduceLT, Nat.reduceLeDiff, Nat.reduceEqDiff, Nat.reduceMul, Nat.reduceAdd, bindS, addrX_ptr, addrX_cptr, ldX_ptr, ldX_cptr, ldO_mem, partX_cell, partX_agg, binIX_int, binSX_str, i_add, i_sub, i_mul, i_eql, i_neq, i_lss, i_leq, i_gtr, i_geq, s_eql, s_neq, lenX_slice, un_not, idxK_some, idxX_slice, idxO_some, natOf_0, natOf_1, natOf_2, natOf_3, natOf_cast, drop0, drop1, drop2, drop3, drop4, zadd, notT, notF, callK_ret, callK_pan, callD_fn, callD_yield, mapv_nil, mapv_cons, app_nil, nil_app, cons_app, stK_some, stoV_ptr, sto_cons, stO_mem, exV_tuple, partsX_cons, partsX_nil, elemsA_nil, elemsA_cons, fillA_nil, fillA_cons, fillK_some, le0, le1, le2, le3, splice0, splice1, splice2, splice3, spliceA, len_nil, len_cons, all_nil, all_cons, ic_int, ic_bool, ic_str, ic_slice, andT, ne_eq, reduceCtorEq, not_false_eq_true]
  obtain ⟨T1, hp1, lg1, n1, cs1, t1, e1, e2, e3, e4, e5, e6, ⟨e8, e9⟩, e7⟩ := rnum_loop (C := C) his (l1 := nx) (nx := nx + 1 + 1) 40 0 t cs T (upd (upd h nx (.mem 38 cs true 0)) (nx + 1) (.mem 51 [.int .i64 0, .bool false] true 0)) [] (by omega) (by omega) (by rw [← hT]; simp only [execX_seq, execX_ops, execX_ret, execX_skip, execX_exit, execX_block, execX_ct, execX_cf, seqK_norm, seqK_ret, seqK_exit, seqK_pan, blockK_norm, blockK_ret, blockK_hit, blockK_miss, Option.isSome_none, Option.isSome_some, runX_mv, runX_box, runX_fieldAddr, runX_load, runX_binI, runX_binS, runX_un, runX_pt, runX_pf, runX_lenS, runX_idxS, runX_extract, runX_alloc, runX_store, runX_call, runX_mkFunc, runX_build, runX_buildS, runX_tt, runX_tf, runX_ff, runX_ft, runX_nil, put_mk, put_none, val_t, val_c, push_mk, set_mk, upd_hit, upd_miss, argTmps_at, getD_0, getD_1, getD_2, getD_3, cells_agg, cells_int, cells_bool, cells_str, cells_slice, any_agg, any_int, any_bool, any_str, any_slice, any_ptr, Nat.reduceLT, Nat.reduceLeDiff, Nat.reduceEqDiff, Nat.reduceMul, Nat.reduceAdd, bindS, addrX_ptr, addrX_cptr, ldX_ptr, ldX_cptr, ldO_mem, partX_cell, partX_agg, binIX_int, binSX_str, i_add, i_sub, i_mul, i_eql, i_neq, i_lss, i_leq, i_gtr, i_geq, s_eql, s_neq, lenX_slice, un_not, idxK_some, idxX_slice, idxO_some, natOf_0, natOf_1, natOf_2, natOf_3, natOf_cast, drop0, drop1, drop2, drop3, drop4, zadd, notT, notF, callK_ret, callK_pan, callD_fn, callD_yield, mapv_nil, mapv_cons, app_nil, nil_app, cons_app, stK_some, stoV_ptr, sto_cons, stO_mem, exV_tuple, partsX_cons, partsX_nil, elemsA_nil, elemsA_cons, fillA_nil, fillA_cons, fillK_some, le0, le1, le2, le3, splice0, splice1, splice2, splice3, spliceA, len_nil, len_cons, all_nil, all_cons, ic_int, ic_bool, ic_str, ic_slice, andT, ne_eq, reduceCtorEq, not_false_eq_true]) (by rw [← hT]; simp only [execX_seq, execX_ops, execX_ret, execX_skip, execX_exit, execX_block, execX_ct, execX_cf, seqK_norm, seqK_ret, seqK_exit, seqK_pan, blockK_norm, blockK_ret, blockK_hit, blockK_miss, Option.isSome_none, Option.isSome_some, runX_mv, runX_box, runX_fieldAddr, runX_load, runX_binI, runX_binS, runX_un, runX_pt, runX_pf, runX_lenS, runX_idxS, runX_extract, runX_alloc, runX_store, runX_call, runX_mkFunc, runX_build, runX_buildS, runX_tt, runX_tf, runX_ff, runX_ft, runX_nil, put_mk, put_none, val_t, val_c, push_mk, set_mk, upd_hit, upd_miss, argTmps_at, getD_0, getD_1, getD_2, getD_3, cells_agg, cells_int, cells_bool, cells_str, cells_slice, any_agg, any_int, any_bool, any_str, any_slice, any_ptr, Nat.reduceLT, Nat.reduceLeDiff, Nat.reduceEqDiff, Nat.reduceMul, Nat.reduceAdd, bindS, addrX_ptr, addrX_cptr, ldX_ptr, ldX_cptr, ldO_mem, partX_cell, partX_agg, binIX_int, binSX_str, i_add, i_sub, i_mul, i_eql, i_neq, i_lss, i_leq, i_gtr, i_geq, s_eql, s_neq, lenX_slice, un_not, idxK_some, idxX_slice, idxO_some, natOf_0, natOf_1, natOf_2, natOf_3, natOf_cast, drop0, drop1, drop2, drop3, drop4, zadd, notT, notF, callK_ret, callK_pan, callD_fn, callD_yield, mapv_nil, mapv_cons, app_nil, nil_app, cons_app, stK_some, stoV_ptr, sto_cons, stO_mem, exV_tuple, partsX_cons, partsX_nil, elemsA_nil, elemsA_cons, fillA_nil, fillA_cons, fillK_some, le0, le1, le2, le3, splice0, splice1, splice2, splice3, spliceA, len_nil, len_cons, all_nil, all_cons, ic_int, ic_bool, ic_str, ic_slice, andT, ne_eq, reduceCtorEq, not_false_eq_true]) hv (by rw [upd_ne _ _ (by omega), upd_hit])
  rw [e1]
  have h2 : T1 2 = .ptr (nx + 1) 0 := by rw [e8, q0]
  have h6 : hp1 (nx + 1) = .mem 51 [.int .i64 0, .bool false] true 0 := by rw [e9 _ (by omega), upd_hit]
  have hlg : ∀ l ∈ lg1, nx ≤ l := fun l hl => by
    rcases e6 l hl with h | h
    · cases h
    · omega
  obtain ⟨k, n', nm, sk, es, args, g1, g2, g3, g4, g5⟩ := e4.shape
  injection g1 with g1
  subst g1 g2
  have hk := his k n' nm sk es [122, 64, 110, 97, 116] 0 ⟨hp1, nx + 1 + 1, lg1⟩
  have hz : Tm.is (.mk k n' nm args) k_z 0 = isT k n' nm es.length [122, 64, 110, 97, 116] 0 := by simp only [Tm.is, ← g4]; rfl
  rw [hz] at e7
  cases hq : isT k n' nm es.length [122, 64, 110, 97, 116] 0 with
  | false =>
    rw [hq] at hk e7
    simp only [execX_seq, execX_ops, execX_ret, execX_skip, execX_exit, execX_block, execX_ct, execX_cf, seqK_norm, seqK_ret, seqK_exit, seqK_pan, blockK_norm, blockK_ret, blockK_hit, blockK_miss, Option.isSome_none, Option.isSome_some, runX_mv, runX_box, runX_fieldAddr, runX_load, runX_binI, runX_binS, runX_un, runX_pt, runX_pf, runX_lenS, runX_idxS, runX_extract, runX_alloc, runX_store, runX_call, runX_mkFunc, runX_build, runX_buildS, runX_tt, runX_tf, runX_ff, runX_ft, runX_nil, put_mk, put_none, val_t, val_c, push_mk, set_mk, upd_hit, upd_miss, argTmps_at, getD_0, getD_1, getD_2, getD_3, cells_agg, cells_int, cells_bool, cells_str, cells_slice, any_agg, any_int, any_bool, any_str, any_slice, any_ptr, Nat.reduceLT, Nat.reduceLeDiff, Nat.reduceEqDiff, Nat.reduceMul, Nat.reduceAdd, bindS, addrX_ptr, addrX_cptr, ldX_ptr, ldX_cptr, ldO_mem, partX_cell, partX_agg, binIX_int, binSX_str, i_add, i_sub, i_mul, i_eql, i_neq, i_lss, i_leq, i_gtr, i_geq, s_eql, s_neq, lenX_slice, un_not, idxK_some, idxX_slice, idxO_some, natOf_0, natOf_1, natOf_2, natOf_3, natOf_cast, drop0, drop1, drop2, drop3, drop4, zadd, notT, notF, callK_ret, callK_pan, callD_fn, callD_yield, mapv_nil, mapv_cons, app_nil, nil_app, cons_app, stK_some, stoV_ptr, sto_cons, stO_mem, exV_tuple, partsX_cons, partsX_nil, elemsA_nil, elemsA_cons, fillA_nil, fillA_cons, fillK_some, le0, le1, le2, le3, splice0, splice1, splice2, splice3, spliceA, len_nil, len_cons, all_nil, all_cons, ic_int, ic_bool, ic_str, ic_slice, andT, ne_eq, reduceCtorEq, not_false_eq_true, e2, e3, e5, h2, h6, hk, Bool.not_false, List.take_succ_cons, List.take_zero]
    refine ⟨_, _, _, rfl, by simp only [execX_seq, execX_ops, execX_ret, execX_skip, execX_exit, execX_block, execX_ct, execX_cf, seqK_norm, seqK_ret, seqK_exit, seqK_pan, blockK_norm, blockK_ret, blockK_hit, blockK_miss, Option.isSome_none, Option.isSome_some, runX_mv, runX_box, runX_fieldAddr, runX_load, runX_binI, runX_binS, runX_un, runX_pt, runX_pf, runX_lenS, runX_idxS, runX_extract, runX_alloc, runX_store, runX_call, runX_mkFunc, runX_build, runX_buildS, runX_tt, runX_tf, runX_ff, runX_ft, runX_nil, put_mk, put_none, val_t, val_c, push_mk, set_mk, upd_hit, upd_miss, argTmps_at, getD_0, getD_1, getD_2, getD_3, cells_agg, cells_int, cells_bool, cells_str, cells_slice, any_agg, any_int, any_bool, any_str, any_slice, any_ptr, Nat.reduceLT, Nat.reduceLeDiff, Nat.reduceEqDiff, Nat.reduceMul, Nat.reduceAdd, bindS, addrX_ptr, addrX_cptr, ldX_ptr, ldX_cptr, ldO_mem, partX_cell, partX_agg, binIX_int, binSX_str, i_add, i_sub, i_mul, i_eql, i_neq, i_lss, i_leq, i_gtr, i_geq, s_eql, s_neq, lenX_slice, un_not, idxK_some, idxX_slice, idxO_some, natOf_0, natOf_1, natOf_2, natOf_3, natOf_cast, drop0, drop1, drop2, drop3, drop4, zadd, notT, notF, callK_ret, callK_pan, callD_fn, callD_yield, mapv_nil, mapv_cons, app_nil, nil_app, cons_app, stK_some, stoV_ptr, sto_cons, stO_mem, exV_tuple, partsX_cons, partsX_nil, elemsA_nil, elemsA_cons, fillA_nil, fillA_cons, fillK_some, le0, le1, le2, le3, splice0, splice1, splice2, splice3, spliceA, len_nil, len_cons, all_nil, all_cons, ic_int, ic_bool, ic_str, ic_slice, andT, ne_eq, reduceCtorEq, not_false_eq_true, h2], by simp only [execX_seq, execX_ops, execX_ret, execX_skip, execX_exit, execX_block, execX_ct, execX_cf, seqK_norm, seqK_ret, seqK_exit, seqK_pan, blockK_norm, blockK_ret, blockK_hit, blockK_miss, Option.isSome_none, Option.isSome_some, runX_mv, runX_box, runX_fieldAddr, runX_load, runX_binI, runX_binS, runX_un, runX_pt, runX_pf, runX_lenS, runX_idxS, runX_extract, runX_alloc, runX_store, runX_call, runX_mkFunc, runX_build, runX_buildS, runX_tt, runX_tf, runX_ff, runX_ft, runX_nil, put_mk, put_none, val_t, val_c, push_mk, set_mk, upd_hit, upd_miss, argTmps_at, getD_0, getD_1, getD_2, getD_3, cells_agg, cells_int, cells_bool, cells_str, cells_slice, any_agg, any_int, any_bool, any_str, any_slice, any_ptr, Nat.reduceLT, Nat.reduceLeDiff, Nat.reduceEqDiff, Nat.reduceMul, Nat.reduceAdd, bindS, addrX_ptr, addrX_cptr, ldX_ptr, ldX_cptr, ldO_mem, partX_cell, partX_agg, binIX_int, binSX_str, i_add, i_sub, i_mul, i_eql, i_neq, i_lss, i_leq, i_gtr, i_geq, s_eql, s_neq, lenX_slice, un_not, idxK_some, idxX_slice, idxO_some, natOf_0, natOf_1, natOf_2, natOf_3, natOf_cast, drop0, drop1, drop2, drop3, drop4, zadd, notT, notF, callK_ret, callK_pan, callD_fn, callD_yield, mapv_nil, mapv_cons, app_nil, nil_app, cons_app, stK_some, stoV_ptr, sto_cons, stO_mem, exV_tuple, partsX_cons, partsX_nil, elemsA_nil, elemsA_cons, fillA_nil, fillA_cons, fillK_some, le0, le1, le2, le3, splice0, splice1, splice2, splice3, spliceA, len_nil, len_cons, all_nil, all_cons, ic_int, ic_bool, ic_str, ic_slice, andT, ne_eq, reduceCtorEq, not_false_eq_true]; rw [e7]; rfl, fun l hl => ?_⟩
    rcases List.mem_cons.1 hl with h | h
    · omega
    · exact hlg l h
  | true =>
    rw [hq] at hk e7
    simp only [execX_seq, execX_ops, execX_ret, execX_skip, execX_exit, execX_block, execX_ct, execX_cf, seqK_norm, seqK_ret, seqK_exit, seqK_pan, blockK_norm, blockK_ret, blockK_hit, blockK_miss, Option.isSome_none, Option.isSome_some, runX_mv, runX_box, runX_fieldAddr, runX_load, runX_binI, runX_binS, runX_un, runX_pt, runX_pf, runX_lenS, runX_idxS, runX_extract, runX_alloc, runX_store, runX_call, runX_mkFunc, runX_build, runX_buildS, runX_tt, runX_tf, runX_ff, runX_ft, runX_nil, put_mk, put_none, val_t, val_c, push_mk, set_mk, upd_hit, upd_miss, argTmps_at, getD_0, getD_1, getD_2, getD_3, cells_agg, cells_int, cells_bool, cells_str, cells_slice, any_agg, any_int, any_bool, any_str, any_slice, any_ptr, Nat.reduceLT, Nat.reduceLeDiff, Nat.reduceEqDiff, Nat.reduceMul, Nat.reduceAdd, bindS, addrX_ptr, addrX_cptr, ldX_ptr, ldX_cptr, ldO_mem, partX_cell, partX_agg, binIX_int, binSX_str, i_add, i_sub, i_mul, i_eql, i_neq, i_lss, i_leq, i_gtr, i_geq, s_eql, s_neq, lenX_slice, un_not, idxK_some, idxX_slice, idxO_some, natOf_0, natOf_1, natOf_2, natOf_3, natOf_cast, drop0, drop1, drop2, drop3, drop4, zadd, notT, notF, callK_ret, callK_pan, callD_fn, callD_yield, mapv_nil, mapv_cons, app_nil, nil_app, cons_app, stK_some, stoV_ptr, sto_cons, stO_mem, exV_tuple, partsX_cons, partsX_nil, elemsA_nil, elemsA_cons, fillA_nil, fillA_cons, fillK_some, le0, le1, le2, le3, splice0, splice1, splice2, splice3, spliceA, len_nil, len_cons, all_nil, all_cons, ic_int, ic_bool, ic_str, ic_slice, andT, ne_eq, reduceCtorEq, not_false_eq_true, e2, e3, e5, h2, h6, hk, Bool.not_true, List.take_succ_cons, List.take_zero]
    refine ⟨_, _, _, rfl, by simp only [execX_seq, execX_ops, execX_ret, execX_skip, execX_exit, execX_block, execX_ct, execX_cf, seqK_norm, seqK_ret, seqK_exit, seqK_pan, blockK_norm, blockK_ret, blockK_hit, blockK_miss, Option.isSome_none, Option.isSome_some, runX_mv, runX_box, runX_fieldAddr, runX_load, runX_binI, runX_binS, runX_un, runX_pt, runX_pf, runX_lenS, runX_idxS, runX_extract, runX_alloc, runX_store, runX_call, runX_mkFunc, runX_build, runX_buildS, runX_tt, runX_tf, runX_ff, runX_ft, runX_nil, put_mk, put_none, val_t, val_c, push_mk, set_mk, upd_hit, upd_miss, argTmps_at, getD_0, getD_1, getD_2, getD_3, cells_agg, cells_int, cells_bool, cells_str, cells_slice, any_agg, any_int, any_bool, any_str, any_slice, any_ptr, Nat.reduceLT, Nat.reduceLeDiff, Nat.reduceEqDiff, Nat.reduceMul, Nat.reduceAdd, bindS, addrX_ptr, addrX_cptr, ldX_ptr, ldX_cptr, ldO_mem, partX_cell, partX_agg, binIX_int, binSX_str, i_add, i_sub, i_mul, i_eql, i_neq, i_lss, i_leq, i_gtr, i_geq, s_eql, s_neq, lenX_slice, un_not, idxK_some, idxX_slice, idxO_some, natOf_0, natOf_1, natOf_2, natOf_3, natOf_cast, drop0, drop1, drop2, drop3, drop4, zadd, notT, notF, callK_ret, callK_pan, callD_fn, callD_yield, mapv_nil, mapv_cons, app_nil, nil_app, cons_app, stK_some, stoV_ptr, sto_cons, stO_mem, exV_tuple, partsX_cons, partsX_nil, elemsA_nil, elemsA_cons, fillA_nil, fillA_cons, fillK_some, le0, le1, le2, le3, splice0, splice1, splice2, splice3, spliceA, len_nil, len_cons, all_nil, all_cons, ic_int, ic_bool, ic_str, ic_slice, andT, ne_eq, reduceCtorEq, not_false_eq_true, h2], by simp only [execX_seq, execX_ops, execX_ret, execX_skip, execX_exit, execX_block, execX_ct, execX_cf, seqK_norm, seqK_ret, seqK_exit, seqK_pan, blockK_norm, blockK_ret, blockK_hit, blockK_miss, Option.isSome_none, Option.isSome_some, runX_mv, runX_box, runX_fieldAddr, runX_load, runX_binI, runX_binS, runX_un, runX_pt, runX_pf, runX_lenS, runX_idxS, runX_extract, runX_alloc, runX_store, runX_call, runX_mkFunc, runX_build, runX_buildS, runX_tt, runX_tf, runX_ff, runX_ft, runX_nil, put_mk, put_none, val_t, val_c, push_mk, set_mk, upd_hit, upd_miss, argTmps_at, getD_0, getD_1, getD_2, getD_3, cells_agg, cells_int, cells_bool, cells_str, cells_slice, any_agg, any_int, any_bool, any_str, any_slice, any_ptr, Nat.reduceLT, Nat.reduceLeDiff, Nat.reduceEqDiff, Nat.reduceMul, Nat.reduceAdd, bindS, addrX_ptr, addrX_cptr, ldX_ptr, ldX_cptr, ldO_mem, partX_cell, partX_agg, binIX_int, binSX_str, i_add, i_sub, i_mul, i_eql, i_neq, i_lss, i_leq, i_gtr, i_geq, s_eql, s_neq, lenX_slice, un_not, idxK_some, idxX_slice, idxO_some, natOf_0, natOf_1, natOf_2, natOf_3, natOf_cast, drop0, drop1, drop2, drop3, drop4, zadd, notT, notF, callK_ret, callK_pan, callD_fn, callD_yield, mapv_nil, mapv_cons, app_nil, nil_app, cons_app, stK_some, stoV_ptr, sto_cons, stO_mem, exV_tuple, partsX_cons, partsX_nil, elemsA_nil, elemsA_cons, fillA_nil, fillA_cons, fillK_some, le0, le1, le2, le3, splice0, splice1, splice2, splice3, spliceA, len_nil, len_cons, all_nil, all_cons, ic_int, ic_bool, ic_str, ic_slice, andT, ne_eq, reduceCtorEq, not_false_eq_true]; rw [e7]; rfl, fun l hl => ?_⟩
    rcases List.mem_cons.1 hl with h | h
    · omega
    · exact hlg l h
theorem rnum_c {x : AV} {t : Tm} (hv : TmV x t) {st : St} : callW C (.fn 17) [x] .normal st = some (.ret (.agg [.int .i64 (numF 40 0 t).1, .bool (numF 40 0 t).2]), st, none) := by
  obtain ⟨cs, rfl⟩ : ∃ cs, x = .agg cs := by obtain ⟨_, _, _, _, _, _, h, _⟩ := hv.shape; exact ⟨_, h⟩
  obtain ⟨T, hp, lg, h1, h2, h3, h4⟩ := rnum_b (C := C) (c := callW C) (fun _ _ _ _ _ _ _ _ => ris_c) hv (h := st.heap) (nx := st.next)
  refine call_clean fn17 (cX rfl) code17 (by kernel_rfl) rfl h1 endOf_ret (vs := [.agg [.int .i64 (numF 40 0 t).1, .bool (numF 40 0 t).2]]) ?_ rfl rfl h4
  simp only [F17, resA_cell ty51 h2, resA_nil, Option.map_some, h3, ldO_mem, T51, drop0, bindS]
  rfl
end Go.Proofs.L31

/- Contracts of the reference: Nat. -/
namespace Go.Proofs.L31
open Go Go.AE
set_option linter.unusedVariables false
def RConOk (c : CallF) : Prop := ∀ nm sk es st, CleanV (.slice sk es) → c (.fn 34) [.str nm, .slice sk es] .normal st = some (.ret (.agg [.int .i64 1, .int .i64 0, .str nm, .slice sk es]), st, none)
theorem rnat_round {C : Ctx} {c : CallF} (hcon : RConOk c) {n l3 nx i : Nat} (hn : n < 1000000) (hi : i < n) {T : Nat → AV} {hp : Nat → AO} {lg : List Nat} (h3 : T 3 = .ptr l3 0) (h5 : T 0 = .int .i64 (n : Int)) (h6 : T 4 = .int .i64 (i : Int)) (hh : hp l3 = .mem 38 (natC i) true 0) :
    ∃ T', execX c C false none 13 none l13_0 ⟨T, 23, [], none⟩ ⟨hp, nx, lg⟩ = some (.norm, ⟨T', 23, [], none⟩, ⟨upd hp l3 (.mem 38 (natC (i + 1)) true 0), nx, l3 :: lg⟩) ∧ T' 2 = T 2 ∧ T' 3 = .ptr l3 0 ∧ T' 0 = .int .i64 (n : Int) ∧ T' 4 = .int .i64 ((i + 1 : Nat) : Int) := by
  have hlt : decide ((i : Int) < (n : Int)) = true := dec_true (by omega)
  have hw : IntKind.i64.wrap ((i : Int) + 1) = ((i + 1 : Nat) : Int) := by rw [wrap64 (by omega) (by omega)]; rfl
  rw [natC_succ]
  simp only [execX_seq, execX_ops, execX_ret, execX_skip, execX_exit, execX_block, execX_ct, execX_cf, seqK_norm, seqK_ret, seqK_exit, seqK_pan, blockK_norm, blockK_ret, blockK_hit, blockK_miss, Option.isSome_none, Option.isSome_some, runX_mv, runX_box, runX_fieldAddr, runX_load, runX_binI, runX_binS, runX_un, runX_pt, runX_pf, runX_lenS, runX_idxS, runX_extract, runX_alloc, runX_store, runX_call, runX_mkFunc, runX_build, runX_buildS, runX_tt, runX_tf, runX_ff, runX_ft, runX_nil, put_mk, put_none, val_t, val_c, push_mk, set_mk, upd_hit, upd_miss, argTmps_at, getD_0, getD_1, getD_2, getD_3, cells_agg, cells_int, cells_bool, cells_str, cells_slice, any_agg, any_int, any_bool, any_str, any_slice, any_ptr, Nat.reduceLT, Nat.reduceLeDiff, Nat.reduceEqDiff, Nat.reduceMul, Nat.reduceAdd, bindS, addrX_ptr, addrX_cptr, ldX_ptr, ldX_cptr, ldO_mem, partX_cell, partX_agg, binIX_int, binSX_str, i_add, i_sub, i_mul, i_eql, i_neq, i_lss, i_leq, i_gtr, i_geq, s_eql, s_neq, lenX_slice, un_not, idxK_some, idxX_slice, idxO_some, natOf_0, natOf_1, natOf_2, natOf_3, natOf_cast, drop0, drop1, drop2, drop3, drop4, zadd, notT, notF, callK_ret, callK_pan, callD_fn, callD_yield, mapv_nil, mapv_cons, app_nil, nil_app, cons_app, stK_some, stoV_ptr, sto_cons, stO_mem, exV_tuple, partsX_cons, partsX_nil, elemsA_nil, elemsA_cons, fillA_nil, fillA_cons, fillK_some, le0, le1, le2, le3, splice0, splice1, splice2, splice3, spliceA, len_nil, len_cons, all_nil, all_cons, ic_int, ic_bool, ic_str, ic_slice, andT, ne_eq, reduceCtorEq, not_false_eq_true, l13_0, h3, h5, h6, hh, hlt, natC_len, natC_take, hcon _ _ _ _ (natS_clean i), hw]
  exact ⟨_, rfl, by simp only [execX_seq, execX_ops, execX_ret, execX_skip, execX_exit, execX_block, execX_ct, execX_cf, seqK_norm, seqK_ret, seqK_exit, seqK_pan, blockK_norm, blockK_ret, blockK_hit, blockK_miss, Option.isSome_none, Option.isSome_some, runX_mv, runX_box, runX_fieldAddr, runX_load, runX_binI, runX_binS, runX_un, runX_pt, runX_pf, runX_lenS, runX_idxS, runX_extract, runX_alloc, runX_store, runX_call, runX_mkFunc, runX_build, runX_buildS, runX_tt, runX_tf, runX_ff, runX_ft, runX_nil, put_mk, put_none, val_t, val_c, push_mk, set_mk, upd_hit, upd_miss, argTmps_at, getD_0, getD_1, getD_2, getD_3, cells_agg, cells_int, cells_bool, cells_str, cells_slice, any_agg, any_int, any_bool, any_str, any_slice, any_ptr, Nat.reduceLT, Nat.reduceLeDiff, Nat.reduceEqDiff, Nat.reduceMul, Nat.reduceAdd, bindS, addrX_ptr, addrX_cptr, ldX_ptr, ldX_cptr, ldO_mem, partX_cell, partX_agg, binIX_int, binSX_str, i_add, i_sub, i_mul, i_eql, i_neq, i_lss, i_leq, i_gtr, i_geq, s_eql, s_neq, lenX_slice, un_not, idxK_some, idxX_slice, idxO_some, natOf_0, natOf_1, natOf_2, natOf_3, natOf_cast, drop0, drop1, drop2, drop3, drop4, zadd, notT, notF, callK_ret, callK_pan, callD_fn, callD_yield, mapv_nil, mapv_cons, app_nil, nil_app, cons_app, stK_some, stoV_ptr, sto_cons, stO_mem, exV_tuple, partsX_cons, partsX_nil, elemsA_nil, elemsA_cons, fillA_nil, fillA_cons, fillK_some, le0, le1, le2, le3, splice0, splice1, splice2, splice3, spliceA, len_nil, len_cons, all_nil, all_cons, ic_int, ic_bool, ic_str, ic_slice, andT, ne_eq, reduceCtorEq, not_false_eq_true], by simp only [execX_seq, execX_ops, execX_ret, execX_skip, execX_exit, execX_block, execX_ct, execX_cf, seqK_norm, seqK_ret, seqK_exit, seqK_pan, blockK_norm, blockK_ret, blockK_hit, blockK_miss, Option.isSome_none, Option.isSome_some, runX_mv, runX_box, runX_fieldAddr, runX_load, runX_binI, runX_binS, runX_un, runX_pt, runX_pf, runX_lenS, runX_idxS, runX_extract, runX_alloc, runX_store, runX_call, runX_mkFunc, runX_build, runX_buildS, runX_tt, runX_tf, runX_ff, runX_ft, runX_nil, put_mk, put_none, val_t, val_c, push_mk, set_mk, upd_hit, upd_miss, argTmps_at, getD_0, getD_1, getD_2, getD_3, cells_agg, cells_int, cells_bool, cells_str, cells_slice, any_agg, any_int, any_bool, any_str, any_slice, any_ptr, Nat.reduceLT, Nat.reduceLeDiff, Nat.reduceEqDiff, Nat.reduceMul, Nat.reduceAdd, bindS, addrX_ptr, addrX_cptr, ldX_ptr, ldX_cptr, ldO_mem, partX_cell, partX_agg, binIX_int, binSX_str, i_add, i_sub, i_mul, i_eql, i_neq, i_lss, i_leq, i_gtr, i_geq, s_eql, s_neq, lenX_slice, un_not, idxK_some, idxX_slice, idxO_some, natOf_0, natOf_1, natOf_2, natOf_3, natOf_cast, drop0, drop1, drop2, drop3, drop4, zadd, notT, notF, callK_ret, callK_pan, callD_fn, callD_yield, mapv_nil, mapv_cons, app_nil, nil_app, cons_app, stK_some, stoV_ptr, sto_cons, stO_mem, exV_tuple, partsX_cons, partsX_nil, elemsA_nil, elemsA_cons, fillA_nil, fillA_cons, fillK_some, le0, le1, le2, le3, splice0, splice1, splice2, splice3, spliceA, len_nil, len_cons, all_nil, all_cons, ic_int, ic_bool, ic_str, ic_slice, andT, ne_eq, reduceCtorEq, not_false_eq_true, h3], by simp only [execX_seq, execX_ops, execX_ret, execX_skip, execX_exit, execX_block, execX_ct, execX_cf, seqK_norm, seqK_ret, seqK_exit, seqK_pan, blockK_norm, blockK_ret, blockK_hit, blockK_miss, Option.isSome_none, Option.isSome_some, runX_mv, runX_box, runX_fieldAddr, runX_load, runX_binI, runX_binS, runX_un, runX_pt, runX_pf, runX_lenS, runX_idxS, runX_extract, runX_alloc, runX_store, runX_call, runX_mkFunc, runX_build, runX_buildS, runX_tt, runX_tf, runX_ff, runX_ft, runX_nil, put_mk, put_none, val_t, val_c, push_mk, set_mk, upd_hit, upd_miss, argTmps_at, getD_0, getD_1, getD_2, getD_3, cells_agg, cells_int, cells_bool, cells_str, cells_slice, any_agg, any_int, any_bool, any_str, any_slice, any_ptr, Nat.reduceLT, Nat.reduceLeDiff, Nat.reduceEqDiff, Nat.reduceMul, Nat.reduceAdd, bindS, addrX_ptr, addrX_cptr, ldX_ptr, ldX_cptr, ldO_mem, partX_cell, partX_agg, binIX_int, binSX_str, i_add, i_sub, i_mul, i_eql, i_neq, i_lss, i_leq, i_gtr, i_geq, s_eql, s_neq, lenX_slice, un_not, idxK_some, idxX_slice, idxO_some, natOf_0, natOf_1, natOf_2, natOf_3, natOf_cast, drop0, drop1, drop2, drop3, drop4, zadd, notT, notF, callK_ret, callK_pan, callD_fn, callD_yield, mapv_nil, mapv_cons, app_nil, nil_app, cons_app, stK_some, stoV_ptr, sto_cons, stO_mem, exV_tuple, partsX_cons, partsX_nil, elemsA_nil, elemsA_cons, fillA_nil, fillA_cons, fillK_some, le0, le1, le2, le3, splice0, splice1, splice2, splice3, spliceA, len_nil, len_cons, all_nil, all_cons, ic_int, ic_bool, ic_str, ic_slice, andT, ne_eq, reduceCtorEq, not_false_eq_true, h5], by simp only [execX_seq, execX_ops, execX_ret, execX_skip, execX_exit, execX_block, execX_ct, execX_cf, seqK_norm, seqK_ret, seqK_exit, seqK_pan, blockK_norm, blockK_ret, blockK_hit, blockK_miss, Option.isSome_none, Option.isSome_some, runX_mv, runX_box, runX_fieldAddr, runX_load, runX_binI, runX_binS, runX_un, runX_pt, runX_pf, runX_lenS, runX_idxS, runX_extract, runX_alloc, runX_store, runX_call, runX_mkFunc, runX_build, runX_buildS, runX_tt, runX_tf, runX_ff, runX_ft, runX_nil, put_mk, put_none, val_t, val_c, push_mk, set_mk, upd_hit, upd_miss, argTmps_at, getD_0, getD_1, getD_2, getD_3, cells_agg, cells_int, cells_bool, cells_str, cells_slice, any_agg, any_int, any_bool, any_str, any_slice, any_ptr, Nat.reduceLT, Nat.reduceLeDiff, Nat.reduceEqDiff, Nat.reduceMul, Nat.reduceAdd, bindS, addrX_ptr, addrX_cptr, ldX_ptr, ldX_cptr, ldO_mem, partX_cell, partX_agg, binIX_int, binSX_str, i_add, i_sub, i_mul, i_eql, i_neq, i_lss, i_leq, i_gtr, i_geq, s_eql, s_neq, lenX_slice, un_not, idxK_some, idxX_slice, idxO_some, natOf_0, natOf_1, natOf_2, natOf_3, natOf_cast, drop0, drop1, drop2, drop3, drop4, zadd, notT, notF, callK_ret, callK_pan, callD_fn, callD_yield, mapv_nil, mapv_cons, app_nil, nil_app, cons_app, stK_some, stoV_ptr, sto_cons, stO_mem, exV_tuple, partsX_cons, partsX_nil, elemsA_nil, elemsA_cons, fillA_nil, fillA_cons, fillK_some, le0, le1, le2, le3, splice0, splice1, splice2, splice3, spliceA, len_nil, len_cons, all_nil, all_cons, ic_int, ic_bool, ic_str, ic_slice, andT, ne_eq, reduceCtorEq, not_false_eq_true]⟩
theorem rnat_stop {C : Ctx} {c : CallF} {n nx : Nat} {T : Nat → AV} {st : St} (h5 : T 0 = .int .i64 (n : Int)) (h6 : T 4 = .int .i64 (n : Int)) :
    ∃ T', execX c C false none 13 none l13_0 ⟨T, 23, [], none⟩ st = some (.exit 0, ⟨T', 23, [], none⟩, st) ∧ T' 2 = T 2 ∧ T' 3 = T 3 := by
  have hlt : decide ((n : Int) < (n : Int)) = false := dec_false (by omega)
  simp only [execX_seq, execX_ops, execX_ret, execX_skip, execX_exit, execX_block, execX_ct, execX_cf, seqK_norm, seqK_ret, seqK_exit, seqK_pan, blockK_norm, blockK_ret, blockK_hit, blockK_miss, Option.isSome_none, Option.isSome_some, runX_mv, runX_box, runX_fieldAddr, runX_load, runX_binI, runX_binS, runX_un, runX_pt, runX_pf, runX_lenS, runX_idxS, runX_extract, runX_alloc, runX_store, runX_call, runX_mkFunc, runX_build, runX_buildS, runX_tt, runX_tf, runX_ff, runX_ft, runX_nil, put_mk, put_none, val_t, val_c, push_mk, set_mk, upd_hit, upd_miss, argTmps_at, getD_0, getD_1, getD_2, getD_3, cells_agg, cells_int, cells_bool, cells_str, cells_slice, any_agg, any_int, any_bool, any_str, any_slice, any_ptr, Nat.reduceLT, Nat.reduceLeDiff, Nat.reduceEqDiff, Nat.reduceMul, Nat.reduceAdd, bindS, addrX_ptr, addrX_cptr, ldX_ptr, ldX_cptr, ldO_mem, partX_cell, partX_agg, binIX_int, binSX_str, i_add, i_sub, i_mul, i_eql, i_neq, i_lss, i_leq, i_gtr, i_geq, s_eql, s_neq, lenX_slice, un_not, idxK_some, idxX_slice, idxO_some, natOf_0, natOf_1, natOf_2, natOf_3, natOf_cast, drop0, drop1, drop2, drop3, drop4, zadd, notT, notF, callK_ret, callK_pan, callD_fn, callD_yield, mapv_nil, mapv_cons, app_nil, nil_app, cons_app, stK_some, stoV_ptr, sto_cons, stO_mem, exV_tuple, partsX_cons, partsX_nil, elemsA_nil, elemsA_cons, fillA_nil, fillA_cons, fillK_some, le0, le1, le2, le3, splice0, splice1, splice2, splice3, spliceA, len_nil, len_cons, all_nil, all_cons, ic_int, ic_bool, ic_str, ic_slice, andT, ne_eq, reduceCtorEq, not_false_eq_true, l13_0, h5, h6, hlt]
  exact ⟨_, rfl, by simp only [execX_seq, execX_ops, execX_ret, execX_skip, execX_exit, execX_block, execX_ct, execX_cf, seqK_norm, seqK_ret, seqK_exit, seqK_pan, blockK_norm, blockK_ret, blockK_hit, blockK_miss, Option.isSome_none, Option.isSome_some, runX_mv, runX_box, runX_fieldAddr, runX_load, runX_binI, runX_binS, runX_un, runX_pt, runX_pf, runX_lenS, runX_idxS, runX_extract, runX_alloc, runX_store, runX_call, runX_mkFunc, runX_build, runX_buildS, runX_tt, runX_tf, runX_ff, runX_ft, runX_nil, put_mk, put_none, val_t, val_c, push_mk, set_mk, upd_hit, upd_miss, argTmps_at, getD_0, getD_1, getD_2, getD_3, cells_agg, cells_int, cells_bool, cells_str, cells_slice, any_agg, any_int, any_bool, any_str, any_slice, any_ptr, Nat.reduceLT, Nat.reduceLeDiff, Nat.reduceEqDiff, Nat.reduceMul, Nat.reduceAdd, bindS, addrX_ptr, addrX_cptr, ldX_ptr, ldX_cptr, ldO_mem, partX_cell, partX_agg, binIX_int, binSX_str, i_add, i_sub, i_mul, i_eql, i_neq, i_lss, i_leq, i_gtr, i_geq, s_eql, s_neq, lenX_slice, un_not, idxK_some, idxX_slice, idxO_some, natOf_0, natOf_1, natOf_2, natOf_3, natOf_cast, drop0, drop1, drop2, drop3, drop4, zadd, notT, notF, callK_ret, callK_pan, callD_fn, callD_yield, mapv_nil, mapv_cons, app_nil, nil_app, cons_app, stK_some, stoV_ptr, sto_cons, stO_mem, exV_tuple, partsX_cons, partsX_nil, elemsA_nil, elemsA_cons, fillA_nil, fillA_cons, fillK_some, le0, le1, le2, le3, splice0, splice1, splice2, splice3, spliceA, len_nil, len_cons, all_nil, all_cons, ic_int, ic_bool, ic_str, ic_slice, andT, ne_eq, reduceCtorEq, not_false_eq_true], by simp only [execX_seq, execX_ops, execX_ret, execX_skip, execX_exit, execX_block, execX_ct, execX_cf, seqK_norm, seqK_ret, seqK_exit, seqK_pan, blockK_norm, blockK_ret, blockK_hit, blockK_miss, Option.isSome_none, Option.isSome_some, runX_mv, runX_box, runX_fieldAddr, runX_load, runX_binI, runX_binS, runX_un, runX_pt, runX_pf, runX_lenS, runX_idxS, runX_extract, runX_alloc, runX_store, runX_call, runX_mkFunc, runX_build, runX_buildS, runX_tt, runX_tf, runX_ff, runX_ft, runX_nil, put_mk, put_none, val_t, val_c, push_mk, set_mk, upd_hit, upd_miss, argTmps_at, getD_0, getD_1, getD_2, getD_3, cells_agg, cells_int, cells_bool, cells_str, cells_slice, any_agg, any_int, any_bool, any_str, any_slice, any_ptr, Nat.reduceLT, Nat.reduceLeDiff, Nat.reduceEqDiff, Nat.reduceMul, Nat.reduceAdd, bindS, addrX_ptr, addrX_cptr, ldX_ptr, ldX_cptr, ldO_mem, partX_cell, partX_agg, binIX_int, binSX_str, i_add, i_sub, i_mul, i_eql, i_neq, i_lss, i_leq, i_gtr, i_geq, s_eql, s_neq, lenX_slice, un_not, idxK_some, idxX_slice, idxO_some, natOf_0, natOf_1, natOf_2, natOf_3, natOf_cast, drop0, drop1, drop2, drop3, drop4, zadd, notT, notF, callK_ret, callK_pan, callD_fn, callD_yield, mapv_nil, mapv_cons, app_nil, nil_app, cons_app, stK_some, stoV_ptr, sto_cons, stO_mem, exV_tuple, partsX_cons, partsX_nil, elemsA_nil, elemsA_cons, fillA_nil, fillA_cons, fillK_some, le0, le1, le2, le3, splice0, splice1, splice2, splice3, spliceA, len_nil, len_cons, all_nil, all_cons, ic_int, ic_bool, ic_str, ic_slice, andT, ne_eq, reduceCtorEq, not_false_eq_true]⟩

theorem rnat_loop {C : Ctx} {c : CallF} (hcon : RConOk c) {n l3 nx : Nat} (hn : n < 1000000) : ∀ (d i : Nat) (T : Nat → AV) (hp : Nat → AO) (lg : List Nat), n = i + d → T 3 = .ptr l3 0 → T 0 = .int .i64 (n : Int) → T 4 = .int .i64 (i : Int) → hp l3 = .mem 38 (natC i) true 0 →
    ∃ T' hp' lg', execX c C false none 13 none (.loop l13_0) ⟨T, 23, [], none⟩ ⟨hp, nx, lg⟩ = some (.exit 0, ⟨T', 23, [], none⟩, ⟨hp', nx, lg'⟩) ∧ T' 2 = T 2 ∧ T' 3 = .ptr l3 0 ∧ hp' l3 = .mem 38 (natC n) true 0 ∧ (∀ l, l ≠ l3 → hp' l = hp l) ∧ ∀ l ∈ lg', l ∈ lg ∨ l = l3 := by
  intro d
  induction d with
  | zero =>
    intro i T hp lg hd h3 h5 h6 hh
    obtain rfl : n = i := by omega
    obtain ⟨T', e1, e2, e3⟩ := rnat_stop (C := C) (c := c) (nx := nx) (st := ⟨hp, nx, lg⟩) h5 h6
    rw [execX_loop, e1, bindS, seqK_exit]
    exact ⟨T', hp, lg, rfl, e2, by rw [e3, h3], hh, fun _ _ => rfl, fun l h => .inl h⟩
  | succ d ih =>
    intro i T hp lg hd h3 h5 h6 hh
    obtain ⟨T1, f1, f2, f3, f5, f6⟩ := rnat_round (C := C) (nx := nx) (lg := lg) hcon hn (i := i) (by omega) h3 h5 h6 hh
    rw [execX_loop, f1, bindS, seqK_norm]
    obtain ⟨T', hp', lg', e1, e2, e3, e4, e5, e6⟩ := ih (i + 1) T1 _ (l3 :: lg) (by omega) f3 f5 f6 upd_hit
    refine ⟨T', hp', lg', e1, e2.trans f2, e3, e4, fun l hl => ?_, fun l hl => ?_⟩
    · rw [e5 l hl, upd_ne _ _ hl]
    · rcases e6 l hl with h | h
      · rcases List.mem_cons.1 h with h | h
        · exact .inr h
        · exact .inl h
      · exact .inr h


end Go.Proofs.L31

/- Contracts of the reference: Nat. -/
namespace Go.Proofs.L31
open Go Go.AE
set_option linter.unusedVariables false
theorem splice4 {x a b c d e : AV} : splice 4 [x] [a, b, c, d, e] = [a, b, c, d, x] := (rfl)
theorem rnat_bad {C : Ctx} {c : CallF} {n : Int} (hb : isNumT n = false) {h : Nat → AO} {nx : Nat} :
    ∃ T' hp' lg', execX c C false none 13 none x13 ⟨argTmps [.int .i64 n], 23, [], none⟩ ⟨h, nx, []⟩ = some (.ret, ⟨T', 23, [], none⟩, ⟨hp', nx + 1, lg'⟩) ∧ T' 2 = .ptr nx 0 ∧ hp' nx = .mem 43 [.int .i64 0, .int .i64 0, .str [], .slice .nil [], .int .i64 1] true 0 ∧ ∀ l ∈ lg', nx ≤ l := by
  cases e1 : decide (n < 0) with
  | true =>
    simp only [execX_seq, execX_ops, execX_ret, execX_skip, execX_exit, execX_block, execX_ct, execX_cf, seqK_norm, seqK_ret, seqK_exit, seqK_pan, blockK_norm, blockK_ret, blockK_hit, blockK_miss, Option.isSome_none, Option.isSome_some, runX_mv, runX_box, runX_fieldAddr, runX_load, runX_binI, runX_binS, runX_un, runX_pt, runX_pf, runX_lenS, runX_idxS, runX_extract, runX_alloc, runX_store, runX_call, runX_mkFunc, runX_build, runX_buildS, runX_tt, runX_tf, runX_ff, runX_ft, runX_nil, put_mk, put_none, val_t, val_c, push_mk, set_mk, upd_hit, upd_miss, argTmps_at, getD_0, getD_1, getD_2, getD_3, cells_agg, cells_int, cells_bool, cells_str, cells_slice, any_agg, any_int, any_bool, any_str, any_slice, any_ptr, Nat.reduceLT, Nat.reduceLeDiff, Nat.reduceEqDiff, Nat.reduceMul, Nat.reduceAdd, bindS, addrX_ptr, addrX_cptr, ldX_ptr, ldX_cptr, ldO_mem, partX_cell, partX_agg, binIX_int, binSX_str, i_add, i_sub, i_mul, i_eql, i_neq, i_lss, i_leq, i_gtr, i_geq, s_eql, s_neq, lenX_slice, un_not, idxK_some, idxX_slice, idxO_some, natOf_0, natOf_1, natOf_2, natOf_3, natOf_cast, drop0, drop1, drop2, drop3, drop4, zadd, notT, notF, callK_ret, callK_pan, callD_fn, callD_yield, mapv_nil, mapv_cons, app_nil, nil_app, cons_app, stK_some, stoV_ptr, sto_cons, stO_mem, exV_tuple, partsX_cons, partsX_nil, elemsA_nil, elemsA_cons, fillA_nil, fillA_cons, fillK_some, le0, le1, le2, le3, splice0, splice1, splice2, splice3, spliceA, len_nil, len_cons, all_nil, all_cons, ic_int, ic_bool, ic_str, ic_slice, andT, ne_eq, reduceCtorEq, not_false_eq_true, x13, e1, splice4]
    exact ⟨_, _, _, rfl, by simp only [execX_seq, execX_ops, execX_ret, execX_skip, execX_exit, execX_block, execX_ct, execX_cf, seqK_norm, seqK_ret, seqK_exit, seqK_pan, blockK_norm, blockK_ret, blockK_hit, blockK_miss, Option.isSome_none, Option.isSome_some, runX_mv, runX_box, runX_fieldAddr, runX_load, runX_binI, runX_binS, runX_un, runX_pt, runX_pf, runX_lenS, runX_idxS, runX_extract, runX_alloc, runX_store, runX_call, runX_mkFunc, runX_build, runX_buildS, runX_tt, runX_tf, runX_ff, runX_ft, runX_nil, put_mk, put_none, val_t, val_c, push_mk, set_mk, upd_hit, upd_miss, argTmps_at, getD_0, getD_1, getD_2, getD_3, cells_agg, cells_int, cells_bool, cells_str, cells_slice, any_agg, any_int, any_bool, any_str, any_slice, any_ptr, Nat.reduceLT, Nat.reduceLeDiff, Nat.reduceEqDiff, Nat.reduceMul, Nat.reduceAdd, bindS, addrX_ptr, addrX_cptr, ldX_ptr, ldX_cptr, ldO_mem, partX_cell, partX_agg, binIX_int, binSX_str, i_add, i_sub, i_mul, i_eql, i_neq, i_lss, i_leq, i_gtr, i_geq, s_eql, s_neq, lenX_slice, un_not, idxK_some, idxX_slice, idxO_some, natOf_0, natOf_1, natOf_2, natOf_3, natOf_cast, drop0, drop1, drop2, drop3, drop4, zadd, notT, notF, callK_ret, callK_pan, callD_fn, callD_yield, mapv_nil, mapv_cons, app_nil, nil_app, cons_app, stK_some, stoV_ptr, sto_cons, stO_mem, exV_tuple, partsX_cons, partsX_nil, elemsA_nil, elemsA_cons, fillA_nil, fillA_cons, fillK_some, le0, le1, le2, le3, splice0, splice1, splice2, splice3, spliceA, len_nil, len_cons, all_nil, all_cons, ic_int, ic_bool, ic_str, ic_slice, andT, ne_eq, reduceCtorEq, not_false_eq_true], by simp only [execX_seq, execX_ops, execX_ret, execX_skip, execX_exit, execX_block, execX_ct, execX_cf, seqK_norm, seqK_ret, seqK_exit, seqK_pan, blockK_norm, blockK_ret, blockK_hit, blockK_miss, Option.isSome_none, Option.isSome_some, runX_mv, runX_box, runX_fieldAddr, runX_load, runX_binI, runX_binS, runX_un, runX_pt, runX_pf, runX_lenS, runX_idxS, runX_extract, runX_alloc, runX_store, runX_call, runX_mkFunc, runX_build, runX_buildS, runX_tt, runX_tf, runX_ff, runX_ft, runX_nil, put_mk, put_none, val_t, val_c, push_mk, set_mk, upd_hit, upd_miss, argTmps_at, getD_0, getD_1, getD_2, getD_3, cells_agg, cells_int, cells_bool, cells_str, cells_slice, any_agg, any_int, any_bool, any_str, any_slice, any_ptr, Nat.reduceLT, Nat.reduceLeDiff, Nat.reduceEqDiff, Nat.reduceMul, Nat.reduceAdd, bindS, addrX_ptr, addrX_cptr, ldX_ptr, ldX_cptr, ldO_mem, partX_cell, partX_agg, binIX_int, binSX_str, i_add, i_sub, i_mul, i_eql, i_neq, i_lss, i_leq, i_gtr, i_geq, s_eql, s_neq, lenX_slice, un_not, idxK_some, idxX_slice, idxO_some, natOf_0, natOf_1, natOf_2, natOf_3, natOf_cast, drop0, drop1, drop2, drop3, drop4, zadd, notT, notF, callK_ret, callK_pan, callD_fn, callD_yield, mapv_nil, mapv_cons, app_nil, nil_app, cons_app, stK_some, stoV_ptr, sto_cons, stO_mem, exV_tuple, partsX_cons, partsX_nil, elemsA_nil, elemsA_cons, fillA_nil, fillA_cons, fillK_some, le0, le1, le2, le3, splice0, splice1, splice2, splice3, spliceA, len_nil, len_cons, all_nil, all_cons, ic_int, ic_bool, ic_str, ic_slice, andT, ne_eq, reduceCtorEq, not_false_eq_true], by simp⟩
  | false =>
    have e2 : decide (n > 40) = true := by
      simp only [isNumT, Bool.and_eq_false_iff, decide_eq_false_iff_not, decide_eq_true_eq] at *
      omega
    simp only [execX_seq, execX_ops, execX_ret, execX_skip, execX_exit, execX_block, execX_ct, execX_cf, seqK_norm, seqK_ret, seqK_exit, seqK_pan, blockK_norm, blockK_ret, blockK_hit, blockK_miss, Option.isSome_none, Option.isSome_some, runX_mv, runX_box, runX_fieldAddr, runX_load, runX_binI, runX_binS, runX_un, runX_pt, runX_pf, runX_lenS, runX_idxS, runX_extract, runX_alloc, runX_store, runX_call, runX_mkFunc, runX_build, runX_buildS, runX_tt, runX_tf, runX_ff, runX_ft, runX_nil, put_mk, put_none, val_t, val_c, push_mk, set_mk, upd_hit, upd_miss, argTmps_at, getD_0, getD_1, getD_2, getD_3, cells_agg, cells_int, cells_bool, cells_str, cells_slice, any_agg, any_int, any_bool, any_str, any_slice, any_ptr, Nat.reduceLT, Nat.reduceLeDiff, Nat.reduceEqDiff, Nat.reduceMul, Nat.reduceAdd, bindS, addrX_ptr, addrX_cptr, ldX_ptr, ldX_cptr, ldO_mem, partX_cell, partX_agg, binIX_int, binSX_str, i_add, i_sub, i_mul, i_eql, i_neq, i_lss, i_leq, i_gtr, i_geq, s_eql, s_neq, lenX_slice, un_not, idxK_some, idxX_slice, idxO_some, natOf_0, natOf_1, natOf_2, natOf_3, natOf_cast, drop0, drop1, drop2, drop3, drop4, zadd, notT, notF, callK_ret, callK_pan, callD_fn, callD_yield, mapv_nil, mapv_cons, app_nil, nil_app, cons_app, stK_some, stoV_ptr, sto_cons, stO_mem, exV_tuple, partsX_cons, partsX_nil, elemsA_nil, elemsA_cons, fillA_nil, fillA_cons, fillK_some, le0, le1, le2, le3, splice0, splice1, splice2, splice3, spliceA, len_nil, len_cons, all_nil, all_cons, ic_int, ic_bool, ic_str, ic_slice, andT, ne_eq, reduceCtorEq, not_false_eq_true, x13, e1, e2, splice4]
    exact ⟨_, _, _, rfl, by simp only [execX_seq, execX_ops, execX_ret, execX_skip, execX_exit, execX_block, execX_ct, execX_cf, seqK_norm, seqK_ret, seqK_exit, seqK_pan, blockK_norm, blockK_ret, blockK_hit, blockK_miss, Option.isSome_none, Option.isSome_some, runX_mv, runX_box, runX_fieldAddr, runX_load, runX_binI, runX_binS, runX_un, runX_pt, runX_pf, runX_lenS, runX_idxS, runX_extract, runX_alloc, runX_store, runX_call, runX_mkFunc, runX_build, runX_buildS, runX_tt, runX_tf, runX_ff, runX_ft, runX_nil, put_mk, put_none, val_t, val_c, push_mk, set_mk, upd_hit, upd_miss, argTmps_at, getD_0, getD_1, getD_2, getD_3, cells_agg, cells_int, cells_bool, cells_str, cells_slice, any_agg, any_int, any_bool, any_str, any_slice, any_ptr, Nat.reduceLT, Nat.reduceLeDiff, Nat.reduceEqDiff, Nat.reduceMul, Nat.reduceAdd, bindS, addrX_ptr, addrX_cptr, ldX_ptr, ldX_cptr, ldO_mem, partX_cell, partX_agg, binIX_int, binSX_str, i_add, i_sub, i_mul, i_eql, i_neq, i_lss, i_leq, i_gtr, i_geq, s_eql, s_neq, lenX_slice, un_not, idxK_some, idxX_slice, idxO_some, natOf_0, natOf_1, natOf_2, natOf_3, natOf_cast, drop0, drop1, drop2, drop3, drop4, zadd, notT, notF, callK_ret, callK_pan, callD_fn, callD_yield, mapv_nil, mapv_cons, app_nil, nil_app, cons_app, stK_some, stoV_ptr, sto_cons, stO_mem, exV_tuple, partsX_cons, partsX_nil, elemsA_nil, elemsA_cons, fillA_nil, fillA_cons, fillK_some, le0, le1, le2, le3, splice0, splice1, splice2, splice3, spliceA, len_nil, len_cons, all_nil, all_cons, ic_int, ic_bool, ic_str, ic_slice, andT, ne_eq, reduceCtorEq, not_false_eq_true], by simp only [execX_seq, execX_ops, execX_ret, execX_skip, execX_exit, execX_block, execX_ct, execX_cf, seqK_norm, seqK_ret, seqK_exit, seqK_pan, blockK_norm, blockK_ret, blockK_hit, blockK_miss, Option.isSome_none, Option.isSome_some, runX_mv, runX_box, runX_fieldAddr, runX_load, runX_binI, runX_binS, runX_un, runX_pt, runX_pf, runX_lenS, runX_idxS, runX_extract, runX_alloc, runX_store, runX_call, runX_mkFunc, runX_build, runX_buildS, runX_tt, runX_tf, runX_ff, runX_ft, runX_nil, put_mk, put_none, val_t, val_c, push_mk, set_mk, upd_hit, upd_miss, argTmps_at, getD_0, getD_1, getD_2, getD_3, cells_agg, cells_int, cells_bool, cells_str, cells_slice, any_agg, any_int, any_bool, any_str, any_slice, any_ptr, Nat.reduceLT, Nat.reduceLeDiff, Nat.reduceEqDiff, Nat.reduceMul, Nat.reduceAdd, bindS, addrX_ptr, addrX_cptr, ldX_ptr, ldX_cptr, ldO_mem, partX_cell, partX_agg, binIX_int, binSX_str, i_add, i_sub, i_mul, i_eql, i_neq, i_lss, i_leq, i_gtr, i_geq, s_eql, s_neq, lenX_slice, un_not, idxK_some, idxX_slice, idxO_some, natOf_0, natOf_1, natOf_2, natOf_3, natOf_cast, drop0, drop1, drop2, drop3, drop4, zadd, notT, notF, callK_ret, callK_pan, callD_fn, callD_yield, mapv_nil, mapv_cons, app_nil, nil_app, cons_app, stK_some, stoV_ptr, sto_cons, stO_mem, exV_tuple, partsX_cons, partsX_nil, elemsA_nil, elemsA_cons, fillA_nil, fillA_cons, fillK_some, le0, le1, le2, le3, splice0, splice1, splice2, splice3, spliceA, len_nil, len_cons, all_nil, all_cons, ic_int, ic_bool, ic_str, ic_slice, andT, ne_eq, reduceCtorEq, not_false_eq_true], by simp⟩
end Go.Proofs.L31

/- Contracts of the reference: Nat. -/
namespace Go.Proofs.L31
open Go Go.AE
set_option linter.unusedVariables false
theorem spliceN {cs : List AV} {e : AV} (hl : cs.length = 4) : splice 0 cs [.int .i64 0, .int .i64 0, .str [], .slice .nil [], e] = cs ++ [e] := by
  simp [splice, hl]
theorem rcell {cs : List AV} {e : AV} (h : cs.all AV.isCell = true) (he : e.isCell = true) : (cs ++ [e]).all AV.isCell = true := by simp [h, he]
end Go.Proofs.L31

/- What is known of the code of the reference. -/
namespace Go.Proofs.L31
open Go Go.AE
theorem ok13 : FnOk C 13 F13 x13 false := ⟨fn13, code13, by kernel_rfl, by kernel_rfl⟩
theorem ok14 : FnOk C 14 F14 x14 false := ⟨fn14, code14, by kernel_rfl, by kernel_rfl⟩
theorem ok18 : FnOk C 18 F18 x18 false := ⟨fn18, code18, by kernel_rfl, by kernel_rfl⟩
theorem ok34 : FnOk C 34 F34 x34 false := ⟨fn34, code34, by kernel_rfl, by kernel_rfl⟩
theorem ok4 : FnOk C 4 F4 x4 false := ⟨fn4, code4, by kernel_rfl, by kernel_rfl⟩
end Go.Proofs.L31

/- Contracts of the reference, by rules: con, Nat. -/
namespace Go.Proofs.L31
open Go Go.AE
set_option linter.unusedVariables false

structure KV (C : Ctx) : Prop where
  nx : ∀ f args st, Nat.beq f 6 = false → C.X f args st = none
  k13 : FnOk C 13 F13 x13 false
  k14 : FnOk C 14 F14 x14 false
  k18 : FnOk C 18 F18 x18 false
  k34 : FnOk C 34 F34 x34 false
  t38 : C.ty 38 = some T38
  t43 : C.ty 43 = some T43
  t54 : C.ty 54 = some T54
theorem kV : KV C := ⟨fun f args st h => X2_none h, ok13, ok14, ok18, ok34, ty38, ty43, ty54⟩

theorem con_clean {nm : List Nat} {sk : SK} {es : List AV} (hc : CleanV (.slice sk es)) : CleanV (.agg [.int .i64 1, .int .i64 0, .str nm, .slice sk es]) := by
  simp only [CleanV, bl_agg, bL_cons, bL_nil, bl_int, bl_str, Bool.true_and, Bool.and_true]; exact hc
theorem rcon_g {C : Ctx} (hK : KV C) {nm : List Nat} {sk : SK} {es : List AV} {st : St} (hc : CleanV (.slice sk es)) :
    callW C (.fn 34) [.str nm, .slice sk es] .normal st = some (.ret (.agg [.int .i64 1, .int .i64 0, .str nm, .slice sk es]), st, none) := by
  refine callY (N := 8) hK.k34 (hK.nx _ _ _ rfl) rfl (con_clean hc) ?_
  simp only [RS, List.take_succ_cons, List.take_zero, List.drop_succ_cons, List.drop_zero, List.length_cons, List.length_nil, Option.isSome_none, Option.isSome_some, ne_eq, Option.map_some, gt_iff_lt, ge_iff_le, beq_self_eq_true, bne_self_eq_false, Nat.reduceLT, Nat.reduceLeDiff, Nat.reduceEqDiff, Nat.reduceMul, Nat.reduceAdd, Nat.reduceSub, reduceCtorEq, x34, F34, hK.t38, T38]

def rerr : AV := .agg [.int .i64 0, .int .i64 0, .str [], .slice .nil [], .int .i64 1]
def rnatR (n : Int) : AV := if isNumT n then .agg (natC n.toNat ++ [.int .i64 0]) else rerr
theorem app_clean {cs : List AV} {e : AV} (h : CleanV (.agg cs)) (he : CleanV e) : CleanV (.agg (cs ++ [e])) := by
  simp only [CleanV, bl_agg] at h ⊢
  have : ∀ cs : List AV, belowA.belowL 0 cs = true → belowA.belowL 0 (cs ++ [e]) = true := fun cs => by
    induction cs with
    | nil => intro _; rw [List.nil_append, bL_cons, bL_nil, Bool.and_true]; exact he
    | cons c cs ih => intro h; rw [bL_cons, Bool.and_eq_true] at h; rw [List.cons_append, bL_cons, h.1, ih h.2]; rfl
  exact this cs h
theorem natC_clean (n : Nat) : CleanV (.agg (natC n)) := by have := natA_clean n; rwa [natA_eq] at this
theorem rnatR_clean (n : Int) : CleanV (rnatR n) := by
  unfold rnatR
  split
  · exact app_clean (natC_clean _) rfl
  · rfl
theorem wrapUp {i : Nat} (h : (i < 1000000000) = True) : IntKind.i64.wrap ((i : Int) + 1) = ((i + 1 : Nat) : Int) := by
  have h := of_eq_true h
  rw [wrap64 (by omega) (by omega)]; rfl
theorem wrapDn {i : Nat} (h : (0 < i ∧ i < 1000000000) = True) : IntKind.i64.wrap ((i : Int) - 1) = ((i - 1 : Nat) : Int) := by
  have h := of_eq_true h
  rw [wrap64 (by omega) (by omega)]; omega

theorem natCc_len (n : Nat) : (natC n).length = 4 := natC_len n
theorem rnat_g {C : Ctx} (hK : KV C) {n : Int} {st : St} : callW C (.fn 13) [.int .i64 n] .normal st = some (.ret (rnatR n), st, none) := by
  refine callY (N := 23) hK.k13 (hK.nx _ _ _ rfl) rfl (rnatR_clean n) ?_
  cases hb : isNumT n with
  | false =>
    have e : (decide (n < 0) = true) ∨ (decide (n < 0) = false ∧ decide (40 < n) = true) := by
      simp only [isNumT, Bool.and_eq_false_iff, decide_eq_false_iff_not, decide_eq_true_eq] at *
      omega
    rcases e with e1 | ⟨e1, e2⟩
    · simp only [RS, List.take_succ_cons, List.take_zero, List.drop_succ_cons, List.drop_zero, List.length_cons, List.length_nil, Option.isSome_none, Option.isSome_some, ne_eq, Option.map_some, gt_iff_lt, ge_iff_le, beq_self_eq_true, bne_self_eq_false, Nat.reduceLT, Nat.reduceLeDiff, Nat.reduceEqDiff, Nat.reduceMul, Nat.reduceAdd, Nat.reduceSub, reduceCtorEq, x13, F13, hK.t43, T43, e1, rnatR, hb, rerr, splice4, Bool.false_eq_true, if_false]
    · simp only [RS, List.take_succ_cons, List.take_zero, List.drop_succ_cons, List.drop_zero, List.length_cons, List.length_nil, Option.isSome_none, Option.isSome_some, ne_eq, Option.map_some, gt_iff_lt, ge_iff_le, beq_self_eq_true, bne_self_eq_false, Nat.reduceLT, Nat.reduceLeDiff, Nat.reduceEqDiff, Nat.reduceMul, Nat.reduceAdd, Nat.reduceSub, reduceCtorEq, x13, F13, hK.t43, T43, e1, e2, rnatR, hb, rerr, splice4, Bool.false_eq_true, if_false]
  | true =>
    obtain ⟨m, rfl, hm⟩ := isNumT_nat hb
    have e1 : decide ((m : Int) < 0) = false := dec_false (by omega)
    have e2 : decide (40 < (m : Int)) = false := dec_false (by omega)
    have hz := fun st => rcon_g hK (nm := [122, 64, 110, 97, 116]) (sk := .nil) (es := []) (st := st) nil_clean
    simp only [RS, List.take_succ_cons, List.take_zero, List.drop_succ_cons, List.drop_zero, List.length_cons, List.length_nil, Option.isSome_none, Option.isSome_some, ne_eq, Option.map_some, gt_iff_lt, ge_iff_le, beq_self_eq_true, bne_self_eq_false, Nat.reduceLT, Nat.reduceLeDiff, Nat.reduceEqDiff, Nat.reduceMul, Nat.reduceAdd, Nat.reduceSub, reduceCtorEq, x13, F13, hK.t43, T43, e1, e2, hz]
    refine post_bind (Q1 := fun e T st1 => e = .exit 0 ∧ T 2 = .ptr st.next 0 ∧ T 3 = .ptr (st.next + 1) 0 ∧ st1.heap st.next = .mem 43 [.int .i64 0, .int .i64 0, .str [], .slice .nil [], .int .i64 0] true 0 ∧ st1.heap (st.next + 1) = .mem 38 (natC m) true 0 ∧ LogOk st.next st1.log)
      (post_for (I := fun i T st1 => T 0 = .int .i64 (m : Int) ∧ T 2 = .ptr st.next 0 ∧ T 3 = .ptr (st.next + 1) 0 ∧ T 4 = .int .i64 (i : Int) ∧ st1.heap st.next = .mem 43 [.int .i64 0, .int .i64 0, .str [], .slice .nil [], .int .i64 0] true 0 ∧ st1.heap (st.next + 1) = .mem 38 (natC i) true 0 ∧ LogOk st.next st1.log) m ?_ ?_ (Nat.zero_le m) ?_) ?_
    · rintro i T ⟨h, nx, lg⟩ hi ⟨h0, h2, h3, h4, g1, g2, g3⟩
      simp only at g1 g2 g3
      have hc := fun st => rcon_g hK (nm := [115, 64, 110, 97, 116]) (sk := .exact) (es := [.agg (natC i)]) (st := st) (natS_clean i)
      simp only [RS, List.take_succ_cons, List.take_zero, List.drop_succ_cons, List.drop_zero, List.length_cons, List.length_nil, Option.isSome_none, Option.isSome_some, ne_eq, Option.map_some, gt_iff_lt, ge_iff_le, beq_self_eq_true, bne_self_eq_false, Nat.reduceLT, Nat.reduceLeDiff, Nat.reduceEqDiff, Nat.reduceMul, Nat.reduceAdd, Nat.reduceSub, reduceCtorEq, l13_0, h0, h2, h3, h4, g1, g2, g3, hi, natC_len, natC_take, hc, wrapUp (eq_true (show i < 1000000000 by omega)), natC_succ]
    · rintro T ⟨h, nx, lg⟩ ⟨h0, h2, h3, h4, g1, g2, g3⟩
      simp only at g1 g2 g3
      simp only [RS, List.take_succ_cons, List.take_zero, List.drop_succ_cons, List.drop_zero, List.length_cons, List.length_nil, Option.isSome_none, Option.isSome_some, ne_eq, Option.map_some, gt_iff_lt, ge_iff_le, beq_self_eq_true, bne_self_eq_false, Nat.reduceLT, Nat.reduceLeDiff, Nat.reduceEqDiff, Nat.reduceMul, Nat.reduceAdd, Nat.reduceSub, reduceCtorEq, l13_0, h0, h2, h3, h4, g1, g2, g3]
    · simp only [RS, List.take_succ_cons, List.take_zero, List.drop_succ_cons, List.drop_zero, List.length_cons, List.length_nil, Option.isSome_none, Option.isSome_some, ne_eq, Option.map_some, gt_iff_lt, ge_iff_le, beq_self_eq_true, bne_self_eq_false, Nat.reduceLT, Nat.reduceLeDiff, Nat.reduceEqDiff, Nat.reduceMul, Nat.reduceAdd, Nat.reduceSub, reduceCtorEq]
      exact ⟨rfl, rfl⟩
    · rintro e T ⟨h, nx, lg⟩ ⟨rfl, h2, h3, g1, g2, g3⟩
      simp only at g1 g2 g3
      have f1 : (natC m ++ [AV.int .i64 0]).length = 5 := by rw [List.length_append, natC_len]; rfl
      have f2 : (natC m ++ [AV.int .i64 0]).all AV.isCell = true := rcell (natC_cell _) rfl
      have f4 : (natC m ++ [AV.int .i64 0]).take 5 = natC m ++ [AV.int .i64 0] := List.take_of_length_le (by rw [f1]; exact Nat.le_refl _)
      simp only [RS, List.take_succ_cons, List.take_zero, List.drop_succ_cons, List.drop_zero, List.length_cons, List.length_nil, Option.isSome_none, Option.isSome_some, ne_eq, Option.map_some, gt_iff_lt, ge_iff_le, beq_self_eq_true, bne_self_eq_false, Nat.reduceLT, Nat.reduceLeDiff, Nat.reduceEqDiff, Nat.reduceMul, Nat.reduceAdd, Nat.reduceSub, reduceCtorEq, h2, h3, g1, g2, g3, natC_len, natC_take, natC_cell, spliceN, rnatR, hb, f1, f2, f4, sto_pos, F13, hK.t43, T43, if_true, Int.toNat_natCast]
end Go.Proofs.L31

/- Contracts of the reference, by rules: List. -/
namespace Go.Proofs.L31
open Go Go.AE
set_option linter.unusedVariables false
def rlistR (l : List Int) : AV := if isListT l then .agg (listC l ++ [.int .i64 0]) else rerr
theorem rlistR_clean (l : List Int) : CleanV (rlistR l) := by
  unfold rlistR
  split
  · exact app_clean (listC_clean _) rfl
  · rfl
theorem rnatR_true {x : Int} (h : isNumT x = true) : rnatR x = .agg (natC x.toNat ++ [.int .i64 0]) := by rw [rnatR, h, if_pos rfl]
theorem rnatR_false {x : Int} (h : isNumT x = false) : rnatR x = .agg [.int .i64 0, .int .i64 0, .str [], .slice .nil [], .int .i64 1] := by rw [rnatR, h]; rfl
def z43 : AO := .mem 43 [.int .i64 0, .int .i64 0, .str [], .slice .nil [], .int .i64 0] true 0
def e43 : AO := .mem 43 [.int .i64 0, .int .i64 0, .str [], .slice .nil [], .int .i64 1] true 0
structure LI (l : List Int) (sk : SK) (nx n : Nat) (T : Nat → AV) (st : St) : Prop where
  t0 : T 0 = .slice sk (intsA l)
  t2 : T 2 = .ptr nx 0
  t3 : T 3 = .ptr (nx + 1) 0
  t4 : T 4 = .int .i64 ((n : Int) - 1)
  g0 : st.heap nx = .mem 43 [.int .i64 0, .int .i64 0, .str [], .slice .nil [], .int .i64 0] true 0
  g1 : st.heap (nx + 1) = .mem 38 (listC (l.drop n)) true 0
  nx2 : nx + 2 ≤ st.next
  lg : LogOk nx st.log
  al : allN (l.drop n) = true
  le : n ≤ l.length
structure LQ (l : List Int) (nx : Nat) (e : EX) (T : Nat → AV) (st : St) : Prop where
  t2 : T 2 = .ptr nx 0
  lg : LogOk nx st.log
  r : (e = .exit 0 ∧ st.heap nx = .mem 43 [.int .i64 0, .int .i64 0, .str [], .slice .nil [], .int .i64 0] true 0 ∧ T 3 = .ptr (nx + 1) 0 ∧ st.heap (nx + 1) = .mem 38 (listC l) true 0 ∧ allN l = true) ∨
    (e = .ret ∧ st.heap nx = .mem 43 [.int .i64 0, .int .i64 0, .str [], .slice .nil [], .int .i64 1] true 0 ∧ allN l = false)
theorem allN_drop {l : List Int} {k : Nat} {x : Int} (hx : l[k]? = some x) : allN (l.drop k) = (isNumT x && allN (l.drop (k + 1))) := by
  obtain ⟨hk, rfl⟩ := List.getElem?_eq_some_iff.1 hx
  rw [List.drop_eq_getElem_cons hk]
  rfl
theorem allN_sub {l : List Int} {k : Nat} {x : Int} (hx : l[k]? = some x) (h : isNumT x = false) : allN l = false := by
  cases ha : allN l with
  | false => rfl
  | true => have := List.all_eq_true.1 ha x (List.mem_of_getElem? hx); rw [h] at this; cases this
theorem rlist_round {C : Ctx} (hK : KV C) {l : List Int} {sk : SK} (hl : l.length ≤ 12) {nx n : Nat} {T : Nat → AV} {st : St} (hI : LI l sk nx n T st) :
    Post 34 [] none (execY (callW C) C false 14 none l14_0 ⟨T, 34, [], none⟩ st) fun e T' st' => (e = .norm ∧ ∃ m, m < n ∧ LI l sk nx m T' st') ∨ (e ≠ .norm ∧ LQ l nx e T' st') := by
  obtain ⟨h, nx', lg⟩ := st
  obtain ⟨t0, t2, t3, t4, g0, g1, nx2, hlg, al, le⟩ := hI
  simp only at g0 g1 nx2 hlg
  have q0 : (nx = nx') = False := eq_false (by omega)
  have q1 : (nx + 1 = nx') = False := eq_false (by omega)
  have q2 : nx ≤ nx' := by omega
  cases n with
  | zero =>
    have e1 : decide ((0 : Int) ≤ ((0 : Nat) : Int) - 1) = false := rfl
    simp only [RS, List.take_succ_cons, List.take_zero, List.drop_succ_cons, List.drop_zero, List.length_cons, List.length_nil, Option.isSome_none, Option.isSome_some, ne_eq, Option.map_some, gt_iff_lt, ge_iff_le, beq_self_eq_true, bne_self_eq_false, Nat.reduceLT, Nat.reduceLeDiff, Nat.reduceEqDiff, Nat.reduceMul, Nat.reduceAdd, Nat.reduceSub, reduceCtorEq, l14_0, t0, t2, t3, t4, g0, g1, e1]
    exact ⟨t2, hlg, .inl ⟨rfl, g0, t3, g1, al⟩⟩
  | succ k =>
    have t4' : T 4 = .int .i64 (k : Int) := by rw [t4]; congr 1; omega
    have e1 : decide ((0 : Int) ≤ (k : Int)) = true := dec_true (by omega)
    obtain ⟨x, hx⟩ : ∃ x, l[k]? = some x := ⟨_, List.getElem?_eq_getElem (by omega)⟩
    have hnat := fun st => rnat_g hK (n := x) (st := st)
    have hw : IntKind.i64.wrap ((k : Int) - 1) = (k : Int) - 1 := wrap64 (by omega) (by omega)
    cases hb : isNumT x with
    | false =>
      simp only [rnatR_false hb] at hnat
      simp only [RS, List.take_succ_cons, List.take_zero, List.drop_succ_cons, List.drop_zero, List.length_cons, List.length_nil, Option.isSome_none, Option.isSome_some, ne_eq, Option.map_some, gt_iff_lt, ge_iff_le, beq_self_eq_true, bne_self_eq_false, Nat.reduceLT, Nat.reduceLeDiff, Nat.reduceEqDiff, Nat.reduceMul, Nat.reduceAdd, Nat.reduceSub, reduceCtorEq, l14_0, t0, t2, t3, t4', g0, g1, e1, intsA_get hx, hnat, hK.t43, q0, q1, splice4, beq_iff_eq, Int.reduceBNe, Int.reduceEq]
      exact ⟨by simp only [RS, List.take_succ_cons, List.take_zero, List.drop_succ_cons, List.drop_zero, List.length_cons, List.length_nil, Option.isSome_none, Option.isSome_some, ne_eq, Option.map_some, gt_iff_lt, ge_iff_le, beq_self_eq_true, bne_self_eq_false, Nat.reduceLT, Nat.reduceLeDiff, Nat.reduceEqDiff, Nat.reduceMul, Nat.reduceAdd, Nat.reduceSub, reduceCtorEq, t2], by simp only [RS, List.take_succ_cons, List.take_zero, List.drop_succ_cons, List.drop_zero, List.length_cons, List.length_nil, Option.isSome_none, Option.isSome_some, ne_eq, Option.map_some, gt_iff_lt, ge_iff_le, beq_self_eq_true, bne_self_eq_false, Nat.reduceLT, Nat.reduceLeDiff, Nat.reduceEqDiff, Nat.reduceMul, Nat.reduceAdd, Nat.reduceSub, reduceCtorEq, hlg, q2], .inr ⟨rfl, by simp only [RS, List.take_succ_cons, List.take_zero, List.drop_succ_cons, List.drop_zero, List.length_cons, List.length_nil, Option.isSome_none, Option.isSome_some, ne_eq, Option.map_some, gt_iff_lt, ge_iff_le, beq_self_eq_true, bne_self_eq_false, Nat.reduceLT, Nat.reduceLeDiff, Nat.reduceEqDiff, Nat.reduceMul, Nat.reduceAdd, Nat.reduceSub, reduceCtorEq], allN_sub hx hb⟩⟩
    | true =>
      simp only [rnatR_true hb] at hnat
      have f1 : (natC x.toNat ++ [AV.int .i64 0]).length = 5 := by rw [List.length_append, natC_len]; rfl
      have f2 : (natC x.toNat ++ [AV.int .i64 0]).all AV.isCell = true := rcell (natC_cell _) rfl
      have f3 : (natC x.toNat ++ [AV.int .i64 0]).drop 4 = [.int .i64 0] := by rw [List.drop_append, List.drop_of_length_le (by rw [natC_len]; exact Nat.le_refl _), natC_len]; rfl
      have f4 : (natC x.toNat ++ [AV.int .i64 0]).take 4 = natC x.toNat := by rw [List.take_append, natC_take, natC_len]; exact List.append_nil _
      have hc := fun st => rcon_g hK (nm := [99, 111, 110, 115, 64, 108, 105, 115, 116]) (st := st) (listS_clean x (l.drop (k + 1)))
      have hd : l.drop k = x :: l.drop (k + 1) := by
        obtain ⟨hk, rfl⟩ := List.getElem?_eq_some_iff.1 hx
        rw [List.drop_eq_getElem_cons hk]
      have ha : allN (l.drop k) = true := by rw [allN_drop hx, hb, al]; rfl
      simp only [RS, List.take_succ_cons, List.take_zero, List.drop_succ_cons, List.drop_zero, List.length_cons, List.length_nil, Option.isSome_none, Option.isSome_some, ne_eq, Option.map_some, gt_iff_lt, ge_iff_le, beq_self_eq_true, bne_self_eq_false, Nat.reduceLT, Nat.reduceLeDiff, Nat.reduceEqDiff, Nat.reduceMul, Nat.reduceAdd, Nat.reduceSub, reduceCtorEq, l14_0, t0, t2, t3, t4', g0, g1, e1, intsA_get hx, hnat, hK.t43, q0, q1, sto_pos, f1, f2, f3, f4, natC_len, listC_len, listC_take, hc, hw, Int.reduceBNe]
      refine ⟨k, Nat.lt_succ_self k, ⟨by simp only [RS, List.take_succ_cons, List.take_zero, List.drop_succ_cons, List.drop_zero, List.length_cons, List.length_nil, Option.isSome_none, Option.isSome_some, ne_eq, Option.map_some, gt_iff_lt, ge_iff_le, beq_self_eq_true, bne_self_eq_false, Nat.reduceLT, Nat.reduceLeDiff, Nat.reduceEqDiff, Nat.reduceMul, Nat.reduceAdd, Nat.reduceSub, reduceCtorEq, t0], by simp only [RS, List.take_succ_cons, List.take_zero, List.drop_succ_cons, List.drop_zero, List.length_cons, List.length_nil, Option.isSome_none, Option.isSome_some, ne_eq, Option.map_some, gt_iff_lt, ge_iff_le, beq_self_eq_true, bne_self_eq_false, Nat.reduceLT, Nat.reduceLeDiff, Nat.reduceEqDiff, Nat.reduceMul, Nat.reduceAdd, Nat.reduceSub, reduceCtorEq, t2], by simp only [RS, List.take_succ_cons, List.take_zero, List.drop_succ_cons, List.drop_zero, List.length_cons, List.length_nil, Option.isSome_none, Option.isSome_some, ne_eq, Option.map_some, gt_iff_lt, ge_iff_le, beq_self_eq_true, bne_self_eq_false, Nat.reduceLT, Nat.reduceLeDiff, Nat.reduceEqDiff, Nat.reduceMul, Nat.reduceAdd, Nat.reduceSub, reduceCtorEq, t3], by simp only [RS, List.take_succ_cons, List.take_zero, List.drop_succ_cons, List.drop_zero, List.length_cons, List.length_nil, Option.isSome_none, Option.isSome_some, ne_eq, Option.map_some, gt_iff_lt, ge_iff_le, beq_self_eq_true, bne_self_eq_false, Nat.reduceLT, Nat.reduceLeDiff, Nat.reduceEqDiff, Nat.reduceMul, Nat.reduceAdd, Nat.reduceSub, reduceCtorEq], by simp only [RS, List.take_succ_cons, List.take_zero, List.drop_succ_cons, List.drop_zero, List.length_cons, List.length_nil, Option.isSome_none, Option.isSome_some, ne_eq, Option.map_some, gt_iff_lt, ge_iff_le, beq_self_eq_true, bne_self_eq_false, Nat.reduceLT, Nat.reduceLeDiff, Nat.reduceEqDiff, Nat.reduceMul, Nat.reduceAdd, Nat.reduceSub, reduceCtorEq, q0, g0], by rw [hd]; simp only [RS, List.take_succ_cons, List.take_zero, List.drop_succ_cons, List.drop_zero, List.length_cons, List.length_nil, Option.isSome_none, Option.isSome_some, ne_eq, Option.map_some, gt_iff_lt, ge_iff_le, beq_self_eq_true, bne_self_eq_false, Nat.reduceLT, Nat.reduceLeDiff, Nat.reduceEqDiff, Nat.reduceMul, Nat.reduceAdd, Nat.reduceSub, reduceCtorEq, listC, k_cons], ?_, by simp only [RS, List.take_succ_cons, List.take_zero, List.drop_succ_cons, List.drop_zero, List.length_cons, List.length_nil, Option.isSome_none, Option.isSome_some, ne_eq, Option.map_some, gt_iff_lt, ge_iff_le, beq_self_eq_true, bne_self_eq_false, Nat.reduceLT, Nat.reduceLeDiff, Nat.reduceEqDiff, Nat.reduceMul, Nat.reduceAdd, Nat.reduceSub, reduceCtorEq, hlg, q2], ha, by omega⟩⟩
      simp only; omega
theorem rlist_g {C : Ctx} (hK : KV C) {l : List Int} {sk : SK} {st : St} : callW C (.fn 14) [.slice sk (intsA l)] .normal st = some (.ret (rlistR l), st, none) := by
  refine callY (N := 34) hK.k14 (hK.nx _ _ _ rfl) rfl (rlistR_clean l) ?_
  by_cases hl : l.length ≤ 12
  · have e1 : decide ((12 : Int) < (l.length : Int)) = false := dec_false (by omega)
    have hz := fun st => rcon_g hK (nm := [110, 105, 108, 64, 108, 105, 115, 116]) (sk := .nil) (es := []) (st := st) nil_clean
    have hw : IntKind.i64.wrap ((l.length : Int) - 1) = (l.length : Int) - 1 := wrap64 (by omega) (by omega)
    simp only [RS, List.take_succ_cons, List.take_zero, List.drop_succ_cons, List.drop_zero, List.length_cons, List.length_nil, Option.isSome_none, Option.isSome_some, ne_eq, Option.map_some, gt_iff_lt, ge_iff_le, beq_self_eq_true, bne_self_eq_false, Nat.reduceLT, Nat.reduceLeDiff, Nat.reduceEqDiff, Nat.reduceMul, Nat.reduceAdd, Nat.reduceSub, reduceCtorEq, x14, intsA_len, e1, hz, hw]
    refine post_bind (post_loop (I := LI l sk st.next) (Q := LQ l st.next) (fun n T st1 hI => rlist_round hK hl hI) l.length _ _ ⟨?_, ?_, ?_, ?_, ?_, ?_, ?_, ?_, ?_, Nat.le_refl _⟩) ?_
    · simp only [RS, List.take_succ_cons, List.take_zero, List.drop_succ_cons, List.drop_zero, List.length_cons, List.length_nil, Option.isSome_none, Option.isSome_some, ne_eq, Option.map_some, gt_iff_lt, ge_iff_le, beq_self_eq_true, bne_self_eq_false, Nat.reduceLT, Nat.reduceLeDiff, Nat.reduceEqDiff, Nat.reduceMul, Nat.reduceAdd, Nat.reduceSub, reduceCtorEq]
    · simp only [RS, List.take_succ_cons, List.take_zero, List.drop_succ_cons, List.drop_zero, List.length_cons, List.length_nil, Option.isSome_none, Option.isSome_some, ne_eq, Option.map_some, gt_iff_lt, ge_iff_le, beq_self_eq_true, bne_self_eq_false, Nat.reduceLT, Nat.reduceLeDiff, Nat.reduceEqDiff, Nat.reduceMul, Nat.reduceAdd, Nat.reduceSub, reduceCtorEq]
    · simp only [RS, List.take_succ_cons, List.take_zero, List.drop_succ_cons, List.drop_zero, List.length_cons, List.length_nil, Option.isSome_none, Option.isSome_some, ne_eq, Option.map_some, gt_iff_lt, ge_iff_le, beq_self_eq_true, bne_self_eq_false, Nat.reduceLT, Nat.reduceLeDiff, Nat.reduceEqDiff, Nat.reduceMul, Nat.reduceAdd, Nat.reduceSub, reduceCtorEq]
    · simp only [RS, List.take_succ_cons, List.take_zero, List.drop_succ_cons, List.drop_zero, List.length_cons, List.length_nil, Option.isSome_none, Option.isSome_some, ne_eq, Option.map_some, gt_iff_lt, ge_iff_le, beq_self_eq_true, bne_self_eq_false, Nat.reduceLT, Nat.reduceLeDiff, Nat.reduceEqDiff, Nat.reduceMul, Nat.reduceAdd, Nat.reduceSub, reduceCtorEq]
    · simp only [RS, List.take_succ_cons, List.take_zero, List.drop_succ_cons, List.drop_zero, List.length_cons, List.length_nil, Option.isSome_none, Option.isSome_some, ne_eq, Option.map_some, gt_iff_lt, ge_iff_le, beq_self_eq_true, bne_self_eq_false, Nat.reduceLT, Nat.reduceLeDiff, Nat.reduceEqDiff, Nat.reduceMul, Nat.reduceAdd, Nat.reduceSub, reduceCtorEq]
    · rw [List.drop_length]; simp only [RS, List.take_succ_cons, List.take_zero, List.drop_succ_cons, List.drop_zero, List.length_cons, List.length_nil, Option.isSome_none, Option.isSome_some, ne_eq, Option.map_some, gt_iff_lt, ge_iff_le, beq_self_eq_true, bne_self_eq_false, Nat.reduceLT, Nat.reduceLeDiff, Nat.reduceEqDiff, Nat.reduceMul, Nat.reduceAdd, Nat.reduceSub, reduceCtorEq, listC, k_nil]
    · simp only; omega
    · simp only [RS, List.take_succ_cons, List.take_zero, List.drop_succ_cons, List.drop_zero, List.length_cons, List.length_nil, Option.isSome_none, Option.isSome_some, ne_eq, Option.map_some, gt_iff_lt, ge_iff_le, beq_self_eq_true, bne_self_eq_false, Nat.reduceLT, Nat.reduceLeDiff, Nat.reduceEqDiff, Nat.reduceMul, Nat.reduceAdd, Nat.reduceSub, reduceCtorEq]
    · rw [List.drop_length]; rfl
    · rintro e T ⟨h, nx, lg⟩ ⟨t2, hlg, ⟨rfl, g0, t3, g1, ha⟩ | ⟨rfl, g0, ha⟩⟩
      · have hb : isListT l = true := by simp only [isListT, Bool.and_eq_true, decide_eq_true_eq]; exact ⟨hl, ha⟩
        simp only at g0 g1 hlg
        have f2 : (listC l ++ [AV.int .i64 0]).all AV.isCell = true := rcell (listC_cell _) rfl
        have f1 : (listC l ++ [AV.int .i64 0]).length = 5 := by rw [List.length_append, listC_len]; rfl
        have f4 : (listC l ++ [AV.int .i64 0]).take 5 = listC l ++ [AV.int .i64 0] := List.take_of_length_le (by rw [f1]; exact Nat.le_refl _)
        simp only [RS, List.take_succ_cons, List.take_zero, List.drop_succ_cons, List.drop_zero, List.length_cons, List.length_nil, Option.isSome_none, Option.isSome_some, ne_eq, Option.map_some, gt_iff_lt, ge_iff_le, beq_self_eq_true, bne_self_eq_false, Nat.reduceLT, Nat.reduceLeDiff, Nat.reduceEqDiff, Nat.reduceMul, Nat.reduceAdd, Nat.reduceSub, reduceCtorEq, t2, t3, g0, g1, hlg, listC_len, listC_take, listC_cell, spliceN, f1, f2, f4, sto_pos, rlistR, hb, if_true, F14, hK.t43, T43]
      · have hb : isListT l = false := by simp only [isListT, ha, Bool.and_false]
        simp only at g0 hlg
        simp only [RS, List.take_succ_cons, List.take_zero, List.drop_succ_cons, List.drop_zero, List.length_cons, List.length_nil, Option.isSome_none, Option.isSome_some, ne_eq, Option.map_some, gt_iff_lt, ge_iff_le, beq_self_eq_true, bne_self_eq_false, Nat.reduceLT, Nat.reduceLeDiff, Nat.reduceEqDiff, Nat.reduceMul, Nat.reduceAdd, Nat.reduceSub, reduceCtorEq, t2, g0, hlg, rlistR, hb, Bool.false_eq_true, if_false, F14, hK.t43, T43, rerr]
  · have e1 : decide ((12 : Int) < (l.length : Int)) = true := dec_true (by omega)
    have hb : isListT l = false := by simp only [isListT, Bool.and_eq_false_iff, decide_eq_false_iff_not]; exact .inl hl
    simp only [RS, List.take_succ_cons, List.take_zero, List.drop_succ_cons, List.drop_zero, List.length_cons, List.length_nil, Option.isSome_none, Option.isSome_some, ne_eq, Option.map_some, gt_iff_lt, ge_iff_le, beq_self_eq_true, bne_self_eq_false, Nat.reduceLT, Nat.reduceLeDiff, Nat.reduceEqDiff, Nat.reduceMul, Nat.reduceAdd, Nat.reduceSub, reduceCtorEq, x14, F14, hK.t43, T43, intsA_len, e1, rlistR, hb, Bool.false_eq_true, if_false, splice4, rerr]
end Go.Proofs.L31

/- Contracts of the reference, by rules: Nums. -/
namespace Go.Proofs.L31
open Go Go.AE
set_option linter.unusedVariables false
def skOf (l : List Int) : SK := if l.isEmpty then .nil else .open_
def RNumOk (c : CallF) : Prop := ∀ x t st, TmV x t → c (.fn 17) [x] .normal st = some (.ret (.agg [.int .i64 (numF 40 0 t).1, .bool (numF 40 0 t).2]), st, none)
structure NI (R : Option (List Int)) (nx n : Nat) (T : Nat → AV) (st : St) (t : Tm) (cs : List AV) (acc : List Int) (ak : SK) : Prop where
  t1 : T 1 = .ptr nx 0
  t2 : T 2 = .ptr (nx + 1) 0
  t3 : T 3 = .slice ak (intsA acc)
  g0 : st.heap nx = .mem 38 cs true 0
  g1 : st.heap (nx + 1) = .mem 54 [.slice .nil [], .bool false] true 0
  ac : Acc st.heap st.next (nx + 1) (.slice ak (intsA acc)) acc
  kf : ak.forget = skOf acc
  hv : TmV (.agg cs) t
  nx2 : nx + 2 ≤ st.next
  len : acc.length + n = 12
  lg : LogOk nx st.log
  r : numsF n acc t = R
structure NQ (R : Option (List Int)) (nx : Nat) (e : EX) (T : Nat → AV) (st : St) : Prop where
  t1 : T 1 = .ptr nx 0
  t2 : T 2 = .ptr (nx + 1) 0
  lg : LogOk nx st.log
  r : (e = .exit 0 ∧ ∃ t cs acc ak, T 3 = .slice ak (intsA acc) ∧ st.heap nx = .mem 38 cs true 0 ∧ st.heap (nx + 1) = .mem 54 [.slice .nil [], .bool false] true 0 ∧ ak.forget = skOf acc ∧ TmV (.agg cs) t ∧ (R = if t.is k_nil 0 then some acc else none)) ∨
    (e = .ret ∧ st.heap (nx + 1) = .mem 54 [.slice .nil [], .bool false] true 0 ∧ R = none)
theorem logOk_of {n : Nat} {lg lg' : List Nat} (h : LogOk n lg) (k : ∀ q ∈ lg', q ∈ lg ∨ n + 1 < q) : LogOk n lg' := fun l hl => by
  rcases k l hl with a | a
  · exact h l a
  · omega
theorem rnums_round {C : Ctx} (h36 : RIsOk (callW C)) (h17 : RNumOk (callW C)) {R : Option (List Int)} {nx n : Nat} {T : Nat → AV} {st : St} {t : Tm} {cs : List AV} {acc : List Int} {ak : SK} (hI : NI R nx n T st t cs acc ak) :
    Post 36 [] none (execY (callW C) C false 18 none l18_0 ⟨T, 36, [], none⟩ st) fun e T' st' => (e = .norm ∧ ∃ m, m < n ∧ ∃ t cs acc ak, NI R nx m T' st' t cs acc ak) ∨ (e ≠ .norm ∧ NQ R nx e T' st') := by
  obtain ⟨h, nx', lg⟩ := st
  obtain ⟨t1, t2, t3, g0, g1, ac, kf, hv, nx2, hlen, hlg, hr⟩ := hI
  simp only at g0 g1 ac nx2 hlg
  obtain ⟨k, n', nm, sk, es, args, e1, e2, e3, e4, e5⟩ := hv.shape
  injection e1 with e1
  subst e1 e2
  have hk := fun st => h36 k n' nm sk es [99, 111, 110, 115, 64, 108, 105, 115, 116] 2 st
  have q0 : (nx = nx') = False := eq_false (by omega)
  have q1 : (nx + 1 = nx') = False := eq_false (by omega)
  have q2 : nx ≤ nx' := by omega
  have hkc : Tm.is (.mk k n' nm args) k_cons 2 = isT k n' nm es.length [99, 111, 110, 115, 64, 108, 105, 115, 116] 2 := by simp only [Tm.is, ← e4]; rfl
  cases hq : isT k n' nm es.length [99, 111, 110, 115, 64, 108, 105, 115, 116] 2 with
  | false =>
    simp only [hq] at hk
    simp only [RS, List.take_succ_cons, List.take_zero, List.drop_succ_cons, List.drop_zero, List.length_cons, List.length_nil, Option.isSome_none, Option.isSome_some, ne_eq, Option.map_some, gt_iff_lt, ge_iff_le, beq_self_eq_true, bne_self_eq_false, Nat.reduceLT, Nat.reduceLeDiff, Nat.reduceEqDiff, Nat.reduceMul, Nat.reduceAdd, Nat.reduceSub, reduceCtorEq, l18_0, t1, t2, t3, g0, g1, hk]
    refine ⟨t1, t2, hlg, .inl ⟨rfl, _, _, acc, ak, t3, g0, g1, kf, hv, ?_⟩⟩
    rw [← hr]
    cases n with
    | zero => rw [numsF]
    | succ n => rw [numsF, hkc, hq]; rfl
  | true =>
    simp only [hq] at hk
    cases n with
    | zero =>
      have hlt : decide ((acc.length : Int) < 12) = false := dec_false (by omega)
      simp only [RS, List.take_succ_cons, List.take_zero, List.drop_succ_cons, List.drop_zero, List.length_cons, List.length_nil, Option.isSome_none, Option.isSome_some, ne_eq, Option.map_some, gt_iff_lt, ge_iff_le, beq_self_eq_true, bne_self_eq_false, Nat.reduceLT, Nat.reduceLeDiff, Nat.reduceEqDiff, Nat.reduceMul, Nat.reduceAdd, Nat.reduceSub, reduceCtorEq, l18_0, t1, t2, t3, g0, g1, hk, intsA_len, hlt]
      refine ⟨t1, t2, hlg, .inl ⟨rfl, _, _, acc, ak, t3, g0, g1, kf, hv, ?_⟩⟩
      rw [← hr, numsF]
    | succ n =>
      have hlt : decide ((acc.length : Int) < 12) = true := dec_true (by omega)
      have hl2 : es.length = 2 := isT_len (m := 2) hq
      obtain ⟨x0, he0⟩ : ∃ e0, es[0]? = some e0 := ⟨_, List.getElem?_eq_getElem (by omega)⟩
      obtain ⟨x1, he1⟩ : ∃ e0, es[1]? = some e0 := ⟨_, List.getElem?_eq_getElem (by omega)⟩
      obtain ⟨a0, ha0⟩ : ∃ t0, args[0]? = some t0 := ⟨_, List.getElem?_eq_getElem (by omega)⟩
      obtain ⟨a1, ha1⟩ : ∃ t0, args[1]? = some t0 := ⟨_, List.getElem?_eq_getElem (by omega)⟩
      have v0 := e5 0 x0 a0 he0 ha0
      have v1 := e5 1 x1 a1 he1 ha1
      obtain ⟨cs0, rfl, l0, c0⟩ : ∃ cs0, x0 = .agg cs0 ∧ cs0.length = 4 ∧ cs0.all AV.isCell = true := by obtain ⟨_, _, _, _, _, _, h, _⟩ := v0.shape; exact ⟨_, h, rfl, rfl⟩
      obtain ⟨cs1, rfl, l1, c1⟩ : ∃ cs0, x1 = .agg cs0 ∧ cs0.length = 4 ∧ cs0.all AV.isCell = true := by obtain ⟨_, _, _, _, _, _, h, _⟩ := v1.shape; exact ⟨_, h, rfl, rfl⟩
      have ht0 : cs0.take 4 = cs0 := take_all4 l0
      have ht1 : cs1.take 4 = cs1 := take_all4 l1
      have g17 := fun st => h17 _ _ st v0
      have r0 : Tm.arg (.mk k n' nm args) 0 = a0 := by simp only [Tm.arg, List.getD_eq_getElem?_getD, ha0, Option.getD_some]
      have r1 : Tm.arg (.mk k n' nm args) 1 = a1 := by simp only [Tm.arg, List.getD_eq_getElem?_getD, ha1, Option.getD_some]
      rw [numsF, hkc, hq, if_pos rfl, r0, r1] at hr
      cases hf : (numF 40 0 a0).2 with
      | false =>
        rw [hf, if_neg (by decide)] at hr
        simp only [hf] at g17
        simp only [RS, List.take_succ_cons, List.take_zero, List.drop_succ_cons, List.drop_zero, List.length_cons, List.length_nil, Option.isSome_none, Option.isSome_some, ne_eq, Option.map_some, gt_iff_lt, ge_iff_le, beq_self_eq_true, bne_self_eq_false, Nat.reduceLT, Nat.reduceLeDiff, Nat.reduceEqDiff, Nat.reduceMul, Nat.reduceAdd, Nat.reduceSub, reduceCtorEq, l18_0, t1, t2, t3, g0, g1, hk, intsA_len, hlt, he0, l0, ht0, g17, q0, q1]
        exact ⟨by simp only [RS, List.take_succ_cons, List.take_zero, List.drop_succ_cons, List.drop_zero, List.length_cons, List.length_nil, Option.isSome_none, Option.isSome_some, ne_eq, Option.map_some, gt_iff_lt, ge_iff_le, beq_self_eq_true, bne_self_eq_false, Nat.reduceLT, Nat.reduceLeDiff, Nat.reduceEqDiff, Nat.reduceMul, Nat.reduceAdd, Nat.reduceSub, reduceCtorEq, t1], by simp only [RS, List.take_succ_cons, List.take_zero, List.drop_succ_cons, List.drop_zero, List.length_cons, List.length_nil, Option.isSome_none, Option.isSome_some, ne_eq, Option.map_some, gt_iff_lt, ge_iff_le, beq_self_eq_true, bne_self_eq_false, Nat.reduceLT, Nat.reduceLeDiff, Nat.reduceEqDiff, Nat.reduceMul, Nat.reduceAdd, Nat.reduceSub, reduceCtorEq, t2], by simp only [RS, List.take_succ_cons, List.take_zero, List.drop_succ_cons, List.drop_zero, List.length_cons, List.length_nil, Option.isSome_none, Option.isSome_some, ne_eq, Option.map_some, gt_iff_lt, ge_iff_le, beq_self_eq_true, bne_self_eq_false, Nat.reduceLT, Nat.reduceLeDiff, Nat.reduceEqDiff, Nat.reduceMul, Nat.reduceAdd, Nat.reduceSub, reduceCtorEq, hlg, q2], .inr ⟨rfl, by simp only [RS, List.take_succ_cons, List.take_zero, List.drop_succ_cons, List.drop_zero, List.length_cons, List.length_nil, Option.isSome_none, Option.isSome_some, ne_eq, Option.map_some, gt_iff_lt, ge_iff_le, beq_self_eq_true, bne_self_eq_false, Nat.reduceLT, Nat.reduceLeDiff, Nat.reduceEqDiff, Nat.reduceMul, Nat.reduceAdd, Nat.reduceSub, reduceCtorEq], hr.symm⟩⟩
      | true =>
        rw [hf, if_pos rfl] at hr
        simp only [hf] at g17
        obtain ⟨h', lg', a1', a2', a3', a4'⟩ := app_acc (lg := nx' :: lg) (x := (numF 40 0 a0).1) (h := upd (upd h nx' (.mem 51 [.int .i64 0, .bool false] true 0)) nx' (.mem 51 [.int .i64 (numF 40 0 a0).1, .bool true] true 0)) (nx := nx' + 1) (l1 := nx + 1) (s := .slice ak (intsA acc)) (acc := acc) (by
          rcases ac with ⟨rfl, h2⟩ | ⟨q, h2, h3, h4, h5⟩
          · exact .inl ⟨rfl, h2⟩
          · exact .inr ⟨q, h2, by rw [upd_ne _ _ (by omega), upd_ne _ _ (by omega)]; exact h3, h4, by omega⟩) (by omega) (by omega)
        rw [elemsOf_slice, bindS] at a1'
        have b0 : h' nx = .mem 38 [.int .i64 k, .int .i64 n', .str nm, .slice sk es] true 0 := by rw [a3' nx (by omega), upd_ne _ _ (by omega), upd_ne _ _ (by omega)]; exact g0
        have b1 : h' (nx + 1) = .mem 54 [.slice .nil [], .bool false] true 0 := by rw [a3' (nx + 1) (by omega), upd_ne _ _ (by omega), upd_ne _ _ (by omega)]; exact g1
        simp only [RS, List.take_succ_cons, List.take_zero, List.drop_succ_cons, List.drop_zero, List.length_cons, List.length_nil, Option.isSome_none, Option.isSome_some, ne_eq, Option.map_some, gt_iff_lt, ge_iff_le, beq_self_eq_true, bne_self_eq_false, Nat.reduceLT, Nat.reduceLeDiff, Nat.reduceEqDiff, Nat.reduceMul, Nat.reduceAdd, Nat.reduceSub, reduceCtorEq, l18_0, t1, t2, t3, g0, g1, hk, intsA_len, hlt, he0, l0, ht0, g17, q0, q1, a1', b0, he1, l1, ht1, c1, sto_pos]
        have hlg' : LogOk nx lg' := logOk_of (n := nx) (lg := nx' :: lg) (by rw [logOk_cons]; exact ⟨by omega, hlg⟩) a4'
        refine ⟨n, Nat.lt_succ_self n, a1, cs1, acc ++ [(numF 40 0 a0).1], .tok (nx' + 1) 1, ⟨by simp only [RS, List.take_succ_cons, List.take_zero, List.drop_succ_cons, List.drop_zero, List.length_cons, List.length_nil, Option.isSome_none, Option.isSome_some, ne_eq, Option.map_some, gt_iff_lt, ge_iff_le, beq_self_eq_true, bne_self_eq_false, Nat.reduceLT, Nat.reduceLeDiff, Nat.reduceEqDiff, Nat.reduceMul, Nat.reduceAdd, Nat.reduceSub, reduceCtorEq, t1], by simp only [RS, List.take_succ_cons, List.take_zero, List.drop_succ_cons, List.drop_zero, List.length_cons, List.length_nil, Option.isSome_none, Option.isSome_some, ne_eq, Option.map_some, gt_iff_lt, ge_iff_le, beq_self_eq_true, bne_self_eq_false, Nat.reduceLT, Nat.reduceLeDiff, Nat.reduceEqDiff, Nat.reduceMul, Nat.reduceAdd, Nat.reduceSub, reduceCtorEq, t2], by simp only [RS, List.take_succ_cons, List.take_zero, List.drop_succ_cons, List.drop_zero, List.length_cons, List.length_nil, Option.isSome_none, Option.isSome_some, ne_eq, Option.map_some, gt_iff_lt, ge_iff_le, beq_self_eq_true, bne_self_eq_false, Nat.reduceLT, Nat.reduceLeDiff, Nat.reduceEqDiff, Nat.reduceMul, Nat.reduceAdd, Nat.reduceSub, reduceCtorEq], by simp only [RS, List.take_succ_cons, List.take_zero, List.drop_succ_cons, List.drop_zero, List.length_cons, List.length_nil, Option.isSome_none, Option.isSome_some, ne_eq, Option.map_some, gt_iff_lt, ge_iff_le, beq_self_eq_true, bne_self_eq_false, Nat.reduceLT, Nat.reduceLeDiff, Nat.reduceEqDiff, Nat.reduceMul, Nat.reduceAdd, Nat.reduceSub, reduceCtorEq], by simp only [RS, List.take_succ_cons, List.take_zero, List.drop_succ_cons, List.drop_zero, List.length_cons, List.length_nil, Option.isSome_none, Option.isSome_some, ne_eq, Option.map_some, gt_iff_lt, ge_iff_le, beq_self_eq_true, bne_self_eq_false, Nat.reduceLT, Nat.reduceLeDiff, Nat.reduceEqDiff, Nat.reduceMul, Nat.reduceAdd, Nat.reduceSub, reduceCtorEq, b1], .inr ⟨nx' + 1, rfl, ?_, ?_, ?_⟩, ?_, v1, ?_, ?_, ?_, hr⟩⟩
        · simp only; rw [upd_ne _ _ (by omega)]; exact a2'
        · omega
        · simp only; omega
        · simp only [SK.forget, skOf]
          cases acc <;> rfl
        · simp only; omega
        · simp only [List.length_append, List.length_cons, List.length_nil]; omega
        · simp only [logOk_cons]; exact ⟨Nat.le_refl _, hlg'⟩
def rnumsR (R : Option (List Int)) : AV := .agg [.slice (skOf (R.getD [])) (intsA (R.getD [])), .bool R.isSome]
theorem rnumsR_clean (R : Option (List Int)) : CleanV (rnumsR R) := by
  have : noTok (skOf (R.getD [])) := by unfold skOf; split <;> trivial
  have h := ints_clean this (R.getD [])
  simp only [CleanV, rnumsR, bl_agg, bL_cons, bL_nil, bl_bool, Bool.and_true]
  exact h
theorem frz_nums {C : Ctx} {st1 : St} {ak : SK} {acc : List Int} {b : Bool} {f : FuncId} (hf : C.frz f = true) (hk : ak.forget = skOf acc) :
    (if C.frz f then (freezeR C st1 (.agg [.slice ak (intsA acc), .bool b])).map (fun x => (untok x.1, x.2)) else some (.agg [.slice ak (intsA acc), .bool b], st1)) = some (.agg [.slice (skOf acc) (intsA acc), .bool b], st1) := by
  rw [hf, if_pos rfl]
  simp only [freezeR, freezeVs, freezeV, Option.map_some, untok, untok.untokL, untokL_ints, hk]
theorem rnums_g {C : Ctx} (hK : KV C) (h36 : RIsOk (callW C)) (h17 : RNumOk (callW C)) (hfz : C.frz 18 = true) {x : AV} {t : Tm} (hv : TmV x t) {st : St} : callW C (.fn 18) [x] .normal st = some (.ret (rnumsR (numsF 12 [] t)), st, none) := by
  obtain ⟨cs, rfl, l4⟩ : ∃ cs, x = .agg cs ∧ cs.length = 4 := by obtain ⟨_, _, _, _, _, _, h, _⟩ := hv.shape; exact ⟨_, h, rfl⟩
  have ht4 : cs.take 4 = cs := take_all4 l4
  refine callY0 (N := 36) hK.k18 (hK.nx _ _ _ rfl) rfl ?_
  have hbel : belowA st.next (rnumsR (numsF 12 [] t)) = true := (rnumsR_clean _).below _
  simp only [RS, List.take_succ_cons, List.take_zero, List.drop_succ_cons, List.drop_zero, List.length_cons, List.length_nil, Option.isSome_none, Option.isSome_some, ne_eq, Option.map_some, gt_iff_lt, ge_iff_le, beq_self_eq_true, bne_self_eq_false, Nat.reduceLT, Nat.reduceLeDiff, Nat.reduceEqDiff, Nat.reduceMul, Nat.reduceAdd, Nat.reduceSub, reduceCtorEq, x18]
  refine post_bind (post_loop (I := fun n T st1 => ∃ t' cs acc ak, NI (numsF 12 [] t) st.next n T st1 t' cs acc ak) (Q := NQ (numsF 12 [] t) st.next) (fun n T st1 ⟨t', cs, acc, ak, hI⟩ => rnums_round h36 h17 hI) 12 _ _ ⟨t, cs, [], .nil, ?_, ?_, ?_, ?_, ?_, .inl ⟨rfl, rfl⟩, rfl, hv, ?_, rfl, ?_, rfl⟩) ?_
  · simp only [RS, List.take_succ_cons, List.take_zero, List.drop_succ_cons, List.drop_zero, List.length_cons, List.length_nil, Option.isSome_none, Option.isSome_some, ne_eq, Option.map_some, gt_iff_lt, ge_iff_le, beq_self_eq_true, bne_self_eq_false, Nat.reduceLT, Nat.reduceLeDiff, Nat.reduceEqDiff, Nat.reduceMul, Nat.reduceAdd, Nat.reduceSub, reduceCtorEq]
  · simp only [RS, List.take_succ_cons, List.take_zero, List.drop_succ_cons, List.drop_zero, List.length_cons, List.length_nil, Option.isSome_none, Option.isSome_some, ne_eq, Option.map_some, gt_iff_lt, ge_iff_le, beq_self_eq_true, bne_self_eq_false, Nat.reduceLT, Nat.reduceLeDiff, Nat.reduceEqDiff, Nat.reduceMul, Nat.reduceAdd, Nat.reduceSub, reduceCtorEq]
  · simp only [RS, List.take_succ_cons, List.take_zero, List.drop_succ_cons, List.drop_zero, List.length_cons, List.length_nil, Option.isSome_none, Option.isSome_some, ne_eq, Option.map_some, gt_iff_lt, ge_iff_le, beq_self_eq_true, bne_self_eq_false, Nat.reduceLT, Nat.reduceLeDiff, Nat.reduceEqDiff, Nat.reduceMul, Nat.reduceAdd, Nat.reduceSub, reduceCtorEq]; rfl
  · simp only [RS, List.take_succ_cons, List.take_zero, List.drop_succ_cons, List.drop_zero, List.length_cons, List.length_nil, Option.isSome_none, Option.isSome_some, ne_eq, Option.map_some, gt_iff_lt, ge_iff_le, beq_self_eq_true, bne_self_eq_false, Nat.reduceLT, Nat.reduceLeDiff, Nat.reduceEqDiff, Nat.reduceMul, Nat.reduceAdd, Nat.reduceSub, reduceCtorEq]
  · simp only [RS, List.take_succ_cons, List.take_zero, List.drop_succ_cons, List.drop_zero, List.length_cons, List.length_nil, Option.isSome_none, Option.isSome_some, ne_eq, Option.map_some, gt_iff_lt, ge_iff_le, beq_self_eq_true, bne_self_eq_false, Nat.reduceLT, Nat.reduceLeDiff, Nat.reduceEqDiff, Nat.reduceMul, Nat.reduceAdd, Nat.reduceSub, reduceCtorEq]
  · simp only; omega
  · simp only [RS, List.take_succ_cons, List.take_zero, List.drop_succ_cons, List.drop_zero, List.length_cons, List.length_nil, Option.isSome_none, Option.isSome_some, ne_eq, Option.map_some, gt_iff_lt, ge_iff_le, beq_self_eq_true, bne_self_eq_false, Nat.reduceLT, Nat.reduceLeDiff, Nat.reduceEqDiff, Nat.reduceMul, Nat.reduceAdd, Nat.reduceSub, reduceCtorEq]
  · rintro e T ⟨h, nx, lg⟩ ⟨t1, t2, hlg, ⟨rfl, t', cs', acc, ak, t3, g0, g1, kf, hv', hR⟩ | ⟨rfl, g1, hR⟩⟩
    · simp only at g0 g1 hlg
      obtain ⟨k, n', nm, sk, es, args, e1, e2, e3, e4, e5⟩ := hv'.shape
      injection e1 with e1
      subst e1 e2
      have hk := fun st => h36 k n' nm sk es [110, 105, 108, 64, 108, 105, 115, 116] 0 st
      have hkc : Tm.is (.mk k n' nm args) k_nil 0 = isT k n' nm es.length [110, 105, 108, 64, 108, 105, 115, 116] 0 := by simp only [Tm.is, ← e4]; rfl
      rw [hkc] at hR
      cases hq : isT k n' nm es.length [110, 105, 108, 64, 108, 105, 115, 116] 0 with
      | false =>
        simp only [hq] at hk
        rw [hq, if_neg (by decide)] at hR
        rw [hR] at hbel ⊢
        simp only [RS, List.take_succ_cons, List.take_zero, List.drop_succ_cons, List.drop_zero, List.length_cons, List.length_nil, Option.isSome_none, Option.isSome_some, ne_eq, Option.map_some, gt_iff_lt, ge_iff_le, beq_self_eq_true, bne_self_eq_false, Nat.reduceLT, Nat.reduceLeDiff, Nat.reduceEqDiff, Nat.reduceMul, Nat.reduceAdd, Nat.reduceSub, reduceCtorEq, t1, t2, t3, g0, g1, hlg, hk, F18, hK.t54, T54]
        exact ⟨_, _, rfl, frz_nums (acc := []) (ak := .nil) hfz rfl, by simp only [RS, List.take_succ_cons, List.take_zero, List.drop_succ_cons, List.drop_zero, List.length_cons, List.length_nil, Option.isSome_none, Option.isSome_some, ne_eq, Option.map_some, gt_iff_lt, ge_iff_le, beq_self_eq_true, bne_self_eq_false, Nat.reduceLT, Nat.reduceLeDiff, Nat.reduceEqDiff, Nat.reduceMul, Nat.reduceAdd, Nat.reduceSub, reduceCtorEq, hlg], hbel⟩
      | true =>
        simp only [hq] at hk
        rw [hq, if_pos rfl] at hR
        rw [hR] at hbel ⊢
        simp only [RS, List.take_succ_cons, List.take_zero, List.drop_succ_cons, List.drop_zero, List.length_cons, List.length_nil, Option.isSome_none, Option.isSome_some, ne_eq, Option.map_some, gt_iff_lt, ge_iff_le, beq_self_eq_true, bne_self_eq_false, Nat.reduceLT, Nat.reduceLeDiff, Nat.reduceEqDiff, Nat.reduceMul, Nat.reduceAdd, Nat.reduceSub, reduceCtorEq, t1, t2, t3, g0, g1, hlg, hk, F18, hK.t54, T54]
        exact ⟨_, _, rfl, frz_nums hfz kf, by simp only [RS, List.take_succ_cons, List.take_zero, List.drop_succ_cons, List.drop_zero, List.length_cons, List.length_nil, Option.isSome_none, Option.isSome_some, ne_eq, Option.map_some, gt_iff_lt, ge_iff_le, beq_self_eq_true, bne_self_eq_false, Nat.reduceLT, Nat.reduceLeDiff, Nat.reduceEqDiff, Nat.reduceMul, Nat.reduceAdd, Nat.reduceSub, reduceCtorEq, hlg], hbel⟩
    · simp only at g1 hlg
      rw [hR] at hbel ⊢
      simp only [RS, List.take_succ_cons, List.take_zero, List.drop_succ_cons, List.drop_zero, List.length_cons, List.length_nil, Option.isSome_none, Option.isSome_some, ne_eq, Option.map_some, gt_iff_lt, ge_iff_le, beq_self_eq_true, bne_self_eq_false, Nat.reduceLT, Nat.reduceLeDiff, Nat.reduceEqDiff, Nat.reduceMul, Nat.reduceAdd, Nat.reduceSub, reduceCtorEq, t2, g1, hlg, F18, hK.t54, T54]
      exact ⟨_, _, rfl, frz_nums (acc := []) (ak := .nil) hfz rfl, hlg, hbel⟩
end Go.Proofs.L31

/- LibraryValues returns true. -/
namespace Go.Proofs.L31
open Go Go.AE
set_option linter.unusedVariables false
structure ValsA (c : CallF) (n : Int) (cs : List AV) (e : Int) : Prop where
  len : cs.length = 4
  cell : cs.all AV.isCell = true
  a : ∀ st, c (.fn 11) [.int .i64 n] .normal st = some (.ret (.tuple [.agg cs, .int .i64 e]), st, none)
  b : ∀ st, c (.fn 13) [.int .i64 n] .normal st = some (.ret (.agg (cs ++ [.int .i64 e])), st, none)
  d : ∀ st, c (.fn 19) [.agg cs, .agg cs] .normal st = some (.ret (.bool true), st, none)
structure ValsB (c : CallF) (v : AV) (cs : List AV) (e : Int) : Prop where
  len : cs.length = 4
  cell : cs.all AV.isCell = true
  a : ∀ st, c (.fn 12) [v] .normal st = some (.ret (.tuple [.agg cs, .int .i64 e]), st, none)
  b : ∀ st, c (.fn 14) [v] .normal st = some (.ret (.agg (cs ++ [.int .i64 e])), st, none)
  d : ∀ st, c (.fn 19) [.agg cs, .agg cs] .normal st = some (.ret (.bool true), st, none)
structure ValsC (c : CallF) (x : AV) (k : Int) (b : Bool) : Prop where
  a : ∀ st, c (.fn 15) [x] .normal st = some (.ret (.tuple [.int .i64 k, .bool b]), st, none)
  b : ∀ st, c (.fn 17) [x] .normal st = some (.ret (.agg [.int .i64 k, .bool b]), st, none)
structure ValsD (c : CallF) (x : AV) (kN : St → SK) (sk : SK) (l : List AV) (b : Bool) : Prop where
  a : ∀ st, c (.fn 16) [x] .normal st = some (.ret (.tuple [.slice (kN st) l, .bool b]), st, none)
  b : ∀ st, c (.fn 18) [x] .normal st = some (.ret (.agg [.slice sk l, .bool b]), st, none)
  d : ∀ st0 st, c (.fn 10) [.slice (kN st0) l, .slice sk l] .normal st = some (.ret (.bool true), st, none)
theorem beqb (b : Bool) : (b == b) = true := by cases b <;> rfl
theorem binB_eql {C : Ctx} {t : TypeId} {xo yo : Operand} {a b : Bool} {n : Nat} (h : C.ty t = some ⟨.bool, n, n, false, [.bool false], []⟩) : binA C .eql t xo yo (.bool a) (.bool b) = some (.bool (a == b)) := by
  simp only [binA, eqV, h, boolA]
  cases (a == b) <;> rfl
theorem vals_b {C : Ctx} {c : CallF} {n : Int} {v x : AV} {xs ca cb : List AV} {ea eb kc : Int} {bc bd : Bool} {kN : St → SK} {sk : SK} {l : List AV} (hv1 : ∃ k es, v = .slice k es) (hx : x = .agg xs) (h6 : ∀ st, c (.fn 6) [] .normal st = some (.ret (.bool true), st, none)) (hlx : xs.length = 4) (hcx : xs.all AV.isCell = true)
    (t4 : C.ty 4 = some T4) (hA : ValsA c n ca ea) (hB : ValsB c v cb eb) (hC : ValsC c x kc bc) (hD : ValsD c x kN sk l bd) {h : Nat → AO} {nx : Nat} :
    Post 98 [] none (execY c C false 4 none x4 ⟨argTmps [.int .i64 n, v, x], 98, [], none⟩ ⟨h, nx, []⟩) fun e T st' => e = .ret ∧ T 6 = .bool true ∧ LogOk nx st'.log := by
  obtain ⟨k, es, rfl⟩ := hv1
  subst hx
  obtain ⟨a1, a2, a3, a4, a5⟩ := hA
  obtain ⟨b1, b2, b3, b4, b5⟩ := hB
  obtain ⟨c1, c2⟩ := hC
  obtain ⟨d1, d2, d3⟩ := hD
  have htx : xs.take 4 = xs := take_all4 hlx
  have hta : ca.take 4 = ca := take_all4 a1
  have htb : cb.take 4 = cb := take_all4 b1
  have f1 : ∀ {cs : List AV} {e : AV}, cs.length = 4 → (cs ++ [e]).length = 5 := fun h => by rw [List.length_append, h]; rfl
  have f3 : ∀ {cs : List AV} {e : AV}, cs.length = 4 → (cs ++ [e]).drop 4 = [e] := fun h => by rw [List.drop_append, List.drop_of_length_le (by rw [h]; exact Nat.le_refl _), h]; rfl
  have f4 : ∀ {cs : List AV} {e : AV}, cs.length = 4 → (cs ++ [e]).take 4 = cs := fun h => by rw [List.take_append, take_all4 h, h]; exact List.append_nil _
  simp only [RS, List.take_succ_cons, List.take_zero, List.drop_succ_cons, List.drop_zero, List.length_cons, List.length_nil, Option.isSome_none, Option.isSome_some, ne_eq, Option.map_some, gt_iff_lt, ge_iff_le, beq_self_eq_true, bne_self_eq_false, Nat.reduceLT, Nat.reduceLeDiff, Nat.reduceEqDiff, Nat.reduceMul, Nat.reduceAdd, Nat.reduceSub, reduceCtorEq, x4, *, sto_pos, htx, hta, htb, f1 a1, f1 b1, rcell a2 ic_int, rcell b2 ic_int, f3 a1, f3 b1, f4 a1, f4 b1, binA_beql (t4.trans (by rw [T4]))]

def zT : Tm := .mk 0 0 [] []
theorem zT_small : Small zT := .mk 0 0 [] [] (by decide) fun t h => by cases h
theorem zT_v : TmV (.agg zeroC) zT := .mk 0 0 [] .nil [] [] trivial rfl fun i e t h => by simp at h
theorem valsA (n : Int) : ∃ cs e, ValsA (callW C) n cs e := by
  cases hb : isNumT n with
  | true =>
    refine ⟨natC n.toNat, 0, natC_len _, natC_cell _, fun st => ?_, fun st => ?_, eq_c (small_nat _) (natC_tm _) (natC_tm _)⟩
    · have := natR n st; rw [hb] at this; exact this
    · have := rnat_g kV (n := n) (st := st); rw [rnatR_true hb] at this; exact this
  | false =>
    refine ⟨zeroC, 1, rfl, rfl, fun st => ?_, fun st => ?_, eq_c zT_small zT_v zT_v⟩
    · have := natR n st; rw [hb] at this; exact this
    · have := rnat_g kV (n := n) (st := st); rw [rnatR_false hb] at this; exact this
theorem valsB (sk : SK) (l : List Int) : ∃ cs e, ValsB (callW C) (.slice sk (intsA l)) cs e := by
  cases hb : isListT l with
  | true =>
    refine ⟨listC l, 0, listC_len _, listC_cell _, fun st => ?_, fun st => ?_, eq_c (small_list _) (listC_tm _) (listC_tm _)⟩
    · have := List_c (l := l) (sk := sk) (st := st); rw [hb] at this; simp only [listR, hb, if_true] at this; exact this
    · have := rlist_g kV (l := l) (sk := sk) (st := st); simp only [rlistR, hb, if_true] at this; exact this
  | false =>
    refine ⟨zeroC, 1, rfl, rfl, fun st => ?_, fun st => ?_, eq_c zT_small zT_v zT_v⟩
    · have := List_c (l := l) (sk := sk) (st := st); rw [hb] at this; simp only [listR, hb, Bool.false_eq_true, if_false] at this; exact this
    · have := rlist_g kV (l := l) (sk := sk) (st := st); simp only [rlistR, hb, Bool.false_eq_true, if_false] at this; exact this
theorem frz18 : C.frz 18 = true := by kernel_rfl
theorem numsF_len {t : Tm} : ((numsF 12 [] t).getD []).length ≤ 12 := by
  cases h : numsF 12 [] t with
  | none => exact Nat.zero_le _
  | some r =>
    obtain ⟨m, h1, h2, h3, h4⟩ := numsF_inv 12 [] r t h
    rw [List.nil_append] at h1
    subst h1
    exact h3
theorem valsD {x : AV} {t : Tm} (hv : TmV x t) : ∃ kN sk l b, ValsD (callW C) x kN sk l b := by
  obtain ⟨kN, k1, k2⟩ := numsK hv
  refine ⟨kN, skOf ((numsF 12 [] t).getD []), intsA ((numsF 12 [] t).getD []), (numsF 12 [] t).isSome, k2, fun st => rnums_g kV (fun _ _ _ _ _ _ _ _ => ris_c) (fun _ _ _ h => rnum_c h) frz18 hv, fun st0 st => ?_⟩
  have hl := numsF_len (t := t)
  have := si_c (a := (numsF 12 [] t).getD []) (b := (numsF 12 [] t).getD []) (sk := kN st0) (sk' := skOf ((numsF 12 [] t).getD [])) (by omega) (st := st)
  rw [show decide ((numsF 12 [] t).getD [] = (numsF 12 [] t).getD []) = true from decide_eq_true rfl] at this
  exact this
theorem vals_c {n : Int} {l : List Int} {sk : SK} {x : AV} {t : Tm} (hv : TmV x t) : callW C (.fn 4) [.int .i64 n, .slice sk (intsA l), x] .normal st00 = some (.ret (.bool true), st00, none) := by
  obtain ⟨xs, rfl, hx4, hxc⟩ : ∃ xs, x = .agg xs ∧ xs.length = 4 ∧ xs.all AV.isCell = true := by obtain ⟨_, _, _, _, _, _, h, _⟩ := hv.shape; exact ⟨_, h, rfl, rfl⟩
  obtain ⟨ca, ea, hA⟩ := valsA n
  obtain ⟨cb, eb, hB⟩ := valsB sk l
  obtain ⟨kN, sk', l', b, hD⟩ := valsD hv
  have hC : ValsC (callW C) (.agg xs) (numF 40 0 t).1 (numF 40 0 t).2 := ⟨fun st => num_c hv, fun st => rnum_c hv⟩
  refine callY (N := 98) ok4 (cX rfl) rfl rfl ((vals_b (C := C) (c := callW C) ⟨_, _, rfl⟩ rfl sane_c hx4 hxc ty4 hA hB hC hD).mono fun e T st h => ?_)
  obtain ⟨rfl, h2, h3⟩ := h
  exact ⟨rfl, by simp only [F4, resA_tmp, resA_nil, Option.map_some, h2]; rfl, h3⟩
end Go.Proofs.L31
