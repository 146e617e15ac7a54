/- The law of DropNode. -/
import Derived.Test.YtnehpfaafgnnpaaNB
set_option linter.unusedSimpArgs false
set_option linter.unusedVariables false
set_option linter.unnecessarySimpa false
namespace Go.Proofs.Ytnehpfaafgnnpaa
open Go.AM Go.AM.AV

theorem snap_scO {r : AV} {l : List Nd} {ts : List Nat} (h : scO r l ts) (M : Mem) : snapN 6 M r = some (scE l) := by
  have ho := scO_own h
  obtain ⟨v, xs, t1, t2, rfl, ⟨tok, rfl, ht⟩, hn, rfl⟩ := h
  have he : ∀ {xs : List AV} {l : List Nd} {ts : List Nat}, ndsO xs l ts → erL xs = nds l := by
    intro xs
    induction xs with
    | nil => intro l ts h; cases l with
      | nil => rfl
      | cons => exact h.elim
    | cons x xs ih => intro l ts h; cases l with
      | nil => exact h.elim
      | cons n l =>
        obtain ⟨t1, t2, ⟨v, p, d, cv, cp, s1, s2, s3, s4, s5, rfl, ⟨k1, rfl, -⟩, ⟨k2, rfl, -⟩, ⟨k3, rfl, -⟩, ⟨k4, rfl, -⟩, ⟨k5, rfl, -⟩, -⟩, h2, -⟩ := h
        have := ih h2
        simp only [nds] at this ⊢
        simp only [List.map_cons, erL, er, this, ndE, ndC, ndW, erL_ints, erL_pts]
  have hd : datL xs = true := ownL_datL _ (ndsO_own hn)
  refine snap_agg1 ?_
  rw [snapN.eq_def]
  simp only [hd, if_true, he hn]
theorem one_scB {B : List (List AV)} {v : AV} {l : List Nd} {bs : List Nat} (h : scB B (.agg [v]) l bs) : AV.one v = true := by
  rcases h with ⟨h, -⟩ | ⟨b, xs, b1, h, -⟩ <;> (injection h with h; injection h with h; subst h; rfl)
theorem scO_agg {s : AV} {l : List Nd} {ts : List Nat} (h : scO s l ts) : ∃ tok xs, s = .agg [.sl tok xs] := by
  obtain ⟨v, xs, t1, t2, rfl, ⟨tok, rfl, -⟩, -⟩ := h
  exact ⟨tok, xs, rfl⟩
theorem dropS_sm (l : List Nd) (id : Int) (hl : l.length ≤ 1048576) (hs : ∀ n ∈ l, smN n) : (dropS l id).1.length ≤ 1048576 ∧ ∀ n ∈ (dropS l id).1, smN n := by
  unfold dropS
  split
  · split
    · exact ⟨hl, hs⟩
    · exact ⟨Nat.le_trans (List.length_filter_le _ _) hl, fun n hn => hs n (List.mem_filter.1 hn).1⟩
  · exact ⟨hl, hs⟩
theorem app_get {B : List (List AV)} (R : List (List AV)) {j : Nat} {x : List AV} (h : B[j]? = some x) : (B ++ R)[j]? = some x := by
  rw [List.getElem?_append_left (List.getElem?_eq_some_iff.1 h).1]; exact h
theorem scB_app {B : List (List AV)} {s : AV} {l : List Nd} {bs : List Nat} (h : scB B s l bs) (R : List (List AV)) : scB (B ++ R) s l bs :=
  scB_keep h fun j hj => List.getElem?_append_left (scB_lt h j hj)

set_option maxRecDepth 100000 in
set_option maxHeartbeats 4000000 in
theorem law3 (l : List Nd) (id : Int) (hl : l.length ≤ 9223372036854775807) (hs : ∀ n ∈ l, bgN n) (fl : Bool) (M : Mem) (a : AV) (ha : snapN 6 M a = some (scE l)) : Cl T fl 3 [a, i64 id] M = some (.bool true, M) := by
  refine cl_pure (r := .bool true) (ar := [scE l, i64 id]) T_e3 T_f3 rfl (by simp only [snapL, mapO, ha, snap_i]) (Nat.le_of_ble_eq_true rfl) ?_
  have h5 := fun fl M => cl5 fl M (.agg [.sl .sh (nds l)]) l 1048576 (by omega) hl hs (snap_sc M .sh l)
  simp only [f3S, f3B, scE, h5, W_start, ↓WS_seq, ↓WS_reg, ↓WS_cond, ↓WS_ret, ↓WS_skip, ↓WS_exit, ↓WS_block, ↓WS_loop, ↓WE_nil, ↓WE_sq_n, ↓WE_sq_r, ↓WE_sq_x, ↓WE_bk_n, ↓WE_bk_r, ↓WE_bk_x, ↓WE_lp_n, ↓WE_lp_r, ↓WE_lp_x, ↓WR_nil, ↓WR_cons, ↓WR_guard, WV_some, WT_bool, WT_int, WT_str, WT_nil, WT_ptr, WT_adr, WT_sl, WT_agg, WT_tup, WT_fn, WT_bsl, WT_und, WT_any, WC_bool, WG_bool, WG_und, SOp.ev, X.ev, updO_some, updO_none, ↓upd_same, ↓upd_ne, ↓reduceIte, pick, argEnv_cons, argEnv_nil, bot_at, endQ, resL, resA, oneOrTup, abin, ibin, Nat.reduceEqDiff, if_true, if_false, Option.map_some, seal_bool, seal_int, cond_true, cond_false, Bool.false_eq_true, reduceCtorEq, decide_eq_true_eq, and_self, and_true, true_and, AV.known, AV.cells, cut, List.length_cons, List.length_nil, List.length_map, List.drop_zero, List.drop_succ_cons, List.getElem?_cons_zero, List.getElem?_cons_succ, List.getElem?_append_right, List.getElem?_map, Nat.zero_add, Nat.add_zero, Nat.reduceAdd, Nat.reduceLeDiff, Nat.le_refl, List.nil_append, List.length_append, Int.toNat_natCast, Int.natCast_nonneg, Bool.not_true, Bool.not_false, beq_iff_eq, List.take_succ_cons, List.take_zero, Nat.reduceSub, Nat.sub_self, Nat.reduceMul, Nat.mul_one, evL, ne_eq, not_false_eq_true, get_last, set_last, okE, AV.bd, AV.bdL, Bool.and_self, Bool.and_true, Bool.true_and, List.all_cons, List.all_nil, AV.one, lay, List.set_cons_zero, List.append_nil, beq_self_eq_true, List.drop_nil, evP, fillA, Bool.false_xor, Bool.true_xor, Option.map_none, List.cons_append, hdOk, List.set_cons_succ]
  refine ite_i (fun _ => trivial) (fun hsz => ?_)
  obtain ⟨hl', hs'⟩ := szS_le (Int.le_refl _) hsz
  obtain ⟨hdl, hds⟩ := dropS_sm l id hl' hs'
  obtain ⟨r7, ts7, ⟨o7, n7⟩, h7⟩ := box7 l hl' hs'
  obtain ⟨sw, tkw, ⟨tsw, ow⟩, h6⟩ := own6 l id hl' hs'
  obtain ⟨s8, ts8, ⟨o8, n8⟩, h8⟩ := box8 l id hl' hs'
  obtain ⟨tok, ns, rfl⟩ := scO_agg ow
  generalize hld : (dropS l id).1 = L at *
  generalize hcd : (dropS l id).2 = c at *
  -- the first scene, and what the reference says
  obtain ⟨s1, nb1, bs1, x1, g1, q1⟩ := box_sc o7 n7 1
  refine WV_call (h7 true _ _ s1 nb1 (by simp only [snapL, mapO, snap_sc]) x1) ?_
  have c1 := q1 [[.sl .sh (nds l)]] [] rfl
  rw [List.append_nil] at c1
  have f0 : ([[.sl .sh (nds l)]] ++ nb1 : List (List AV))[0]? = some [.sl .sh (nds l)] := rfl
  generalize ([[.sl .sh (nds l)]] ++ nb1 : List (List AV)) = S1 at *
  obtain ⟨v1, rfl⟩ := scB_agg c1
  simp only [WTv (.agg [v1]), W_start, ↓WS_seq, ↓WS_reg, ↓WS_cond, ↓WS_ret, ↓WS_skip, ↓WS_exit, ↓WS_block, ↓WS_loop, ↓WE_nil, ↓WE_sq_n, ↓WE_sq_r, ↓WE_sq_x, ↓WE_bk_n, ↓WE_bk_r, ↓WE_bk_x, ↓WE_lp_n, ↓WE_lp_r, ↓WE_lp_x, ↓WR_nil, ↓WR_cons, ↓WR_guard, WV_some, WT_bool, WT_int, WT_str, WT_nil, WT_ptr, WT_adr, WT_sl, WT_agg, WT_tup, WT_fn, WT_bsl, WT_und, WT_any, WC_bool, WG_bool, WG_und, SOp.ev, X.ev, updO_some, updO_none, ↓upd_same, ↓upd_ne, ↓reduceIte, pick, argEnv_cons, argEnv_nil, bot_at, endQ, resL, resA, oneOrTup, abin, ibin, Nat.reduceEqDiff, if_true, if_false, Option.map_some, seal_bool, seal_int, cond_true, cond_false, Bool.false_eq_true, reduceCtorEq, decide_eq_true_eq, and_self, and_true, true_and, AV.known, AV.cells, cut, List.length_cons, List.length_nil, List.length_map, List.drop_zero, List.drop_succ_cons, List.getElem?_cons_zero, List.getElem?_cons_succ, List.getElem?_append_right, List.getElem?_map, Nat.zero_add, Nat.add_zero, Nat.reduceAdd, Nat.reduceLeDiff, Nat.le_refl, List.nil_append, List.length_append, Int.toNat_natCast, Int.natCast_nonneg, Bool.not_true, Bool.not_false, beq_iff_eq, List.take_succ_cons, List.take_zero, Nat.reduceSub, Nat.sub_self, Nat.reduceMul, Nat.mul_one, evL, ne_eq, not_false_eq_true, get_last, set_last, okE, AV.bd, AV.bdL, Bool.and_self, Bool.and_true, Bool.true_and, List.all_cons, List.all_nil, AV.one, lay, List.set_cons_zero, List.append_nil, beq_self_eq_true, List.drop_nil, evP, fillA, Bool.false_xor, Bool.true_xor, Option.map_none, List.cons_append, hdOk, List.set_cons_succ]
  refine WV_call (h6 true S1 (.agg [v1]) (snap_scB (M := ⟨S1, []⟩) c1)) ?_
  have f0' : ∀ y, (S1 ++ [y])[0]? = some [.sl .sh (nds l)] := fun y => app_get _ f0
  simp only [f0', W_start, ↓WS_seq, ↓WS_reg, ↓WS_cond, ↓WS_ret, ↓WS_skip, ↓WS_exit, ↓WS_block, ↓WS_loop, ↓WE_nil, ↓WE_sq_n, ↓WE_sq_r, ↓WE_sq_x, ↓WE_bk_n, ↓WE_bk_r, ↓WE_bk_x, ↓WE_lp_n, ↓WE_lp_r, ↓WE_lp_x, ↓WR_nil, ↓WR_cons, ↓WR_guard, WV_some, WT_bool, WT_int, WT_str, WT_nil, WT_ptr, WT_adr, WT_sl, WT_agg, WT_tup, WT_fn, WT_bsl, WT_und, WT_any, WC_bool, WG_bool, WG_und, SOp.ev, X.ev, updO_some, updO_none, ↓upd_same, ↓upd_ne, ↓reduceIte, pick, argEnv_cons, argEnv_nil, bot_at, endQ, resL, resA, oneOrTup, abin, ibin, Nat.reduceEqDiff, if_true, if_false, Option.map_some, seal_bool, seal_int, cond_true, cond_false, Bool.false_eq_true, reduceCtorEq, decide_eq_true_eq, and_self, and_true, true_and, AV.known, AV.cells, cut, List.length_cons, List.length_nil, List.length_map, List.drop_zero, List.drop_succ_cons, List.getElem?_cons_zero, List.getElem?_cons_succ, List.getElem?_append_right, List.getElem?_map, Nat.zero_add, Nat.add_zero, Nat.reduceAdd, Nat.reduceLeDiff, Nat.le_refl, List.nil_append, List.length_append, Int.toNat_natCast, Int.natCast_nonneg, Bool.not_true, Bool.not_false, beq_iff_eq, List.take_succ_cons, List.take_zero, Nat.reduceSub, Nat.sub_self, Nat.reduceMul, Nat.mul_one, evL, ne_eq, not_false_eq_true, get_last, set_last, okE, AV.bd, AV.bdL, Bool.and_self, Bool.and_true, Bool.true_and, List.all_cons, List.all_nil, AV.one, lay, List.set_cons_zero, List.append_nil, beq_self_eq_true, List.drop_nil, evP, fillA, Bool.false_xor, Bool.true_xor, Option.map_none, List.cons_append, hdOk, List.set_cons_succ]
  -- the second scene
  obtain ⟨s2, nb2, bs2, x2, g2, q2⟩ := box_sc o7 n7 (S1 ++ [[AV.sl tok ns]]).length
  refine WV_call (h7 true _ _ s2 nb2 (by simp only [snapL, mapO, snap_sc]) x2) ?_
  have c2 := q2 (S1 ++ [[AV.sl tok ns]]) [] rfl
  rw [List.append_nil] at c2
  have k0 : (S1 ++ [[AV.sl tok ns]] ++ nb2)[0]? = some [.sl .sh (nds l)] := app_get _ (f0' _)
  have k6 : (S1 ++ [[AV.sl tok ns]] ++ nb2)[S1.length]? = some [.sl tok ns] := app_get _ (get_last _ _)
  have hl6 : S1.length < (S1 ++ [[AV.sl tok ns]]).length := by rw [List.length_append]; exact Nat.lt_succ_self _
  have r2 : ∀ j ∈ bs2, S1.length < j ∧ 0 < j := fun j hj => by have := g2.2.2 j hj; omega
  generalize (S1 ++ [[AV.sl tok ns]] ++ nb2) = S3 at *
  generalize S1.length = i6 at *
  obtain ⟨v2, rfl⟩ := scB_agg c2
  have one2 := one_scB c2
  have k0' : ∀ y, (S3 ++ [y])[0]? = some [.sl .sh (nds l)] := fun y => app_get _ k0
  simp only [k0', ↓one2, W_start, ↓WS_seq, ↓WS_reg, ↓WS_cond, ↓WS_ret, ↓WS_skip, ↓WS_exit, ↓WS_block, ↓WS_loop, ↓WE_nil, ↓WE_sq_n, ↓WE_sq_r, ↓WE_sq_x, ↓WE_bk_n, ↓WE_bk_r, ↓WE_bk_x, ↓WE_lp_n, ↓WE_lp_r, ↓WE_lp_x, ↓WR_nil, ↓WR_cons, ↓WR_guard, WV_some, WT_bool, WT_int, WT_str, WT_nil, WT_ptr, WT_adr, WT_sl, WT_agg, WT_tup, WT_fn, WT_bsl, WT_und, WT_any, WC_bool, WG_bool, WG_und, SOp.ev, X.ev, updO_some, updO_none, ↓upd_same, ↓upd_ne, ↓reduceIte, pick, argEnv_cons, argEnv_nil, bot_at, endQ, resL, resA, oneOrTup, abin, ibin, Nat.reduceEqDiff, if_true, if_false, Option.map_some, seal_bool, seal_int, cond_true, cond_false, Bool.false_eq_true, reduceCtorEq, decide_eq_true_eq, and_self, and_true, true_and, AV.known, AV.cells, cut, List.length_cons, List.length_nil, List.length_map, List.drop_zero, List.drop_succ_cons, List.getElem?_cons_zero, List.getElem?_cons_succ, List.getElem?_append_right, List.getElem?_map, Nat.zero_add, Nat.add_zero, Nat.reduceAdd, Nat.reduceLeDiff, Nat.le_refl, List.nil_append, List.length_append, Int.toNat_natCast, Int.natCast_nonneg, Bool.not_true, Bool.not_false, beq_iff_eq, List.take_succ_cons, List.take_zero, Nat.reduceSub, Nat.sub_self, Nat.reduceMul, Nat.mul_one, evL, ne_eq, not_false_eq_true, get_last, set_last, okE, AV.bd, AV.bdL, Bool.and_self, Bool.and_true, Bool.true_and, List.all_cons, List.all_nil, AV.one, lay, List.set_cons_zero, List.append_nil, beq_self_eq_true, List.drop_nil, evP, fillA, Bool.false_xor, Bool.true_xor, Option.map_none, List.cons_append, hdOk, List.set_cons_succ]
  -- the program's answer
  obtain ⟨s3, nb3, bs3, x3, g3, q3⟩ := box_sci o8 n8 c (S3 ++ [[v2]]).length
  refine WV_call (h8 true _ _ (.tup [s3, i64 c]) nb3 (by simp only [snapL, mapO, snap_scB (M := ⟨S3 ++ [[v2]], tkw⟩) (scB_app c2 _), snap_i]) x3) ?_
  have c3 := q3 (S3 ++ [[v2]]) [] rfl
  rw [List.append_nil] at c3
  have c2' := scB_app (scB_app c2 [[v2]]) nb3
  have m0 : (S3 ++ [[v2]] ++ nb3)[0]? = some [.sl .sh (nds l)] := app_get _ (app_get _ k0)
  have m6 : (S3 ++ [[v2]] ++ nb3)[i6]? = some [.sl tok ns] := app_get _ (app_get _ k6)
  have m8 : (S3 ++ [[v2]] ++ nb3)[S3.length]? = some [v2] := app_get _ (get_last _ _)
  have r3 : ∀ j ∈ bs3, S3.length < j ∧ i6 < j ∧ 0 < j := fun j hj => by
    have h1 := g3.2.2 j hj
    have h2 := (List.getElem?_eq_some_iff.1 k6).1
    rw [List.length_append] at h1
    simp only [List.length_cons, List.length_nil] at h1
    omega
  have r2' : ∀ j ∈ bs2, j < S3.length := scB_lt c2
  generalize (S3 ++ [[v2]] ++ nb3) = S4 at *
  generalize S3.length = i8 at *
  obtain ⟨v3, rfl⟩ := scB_agg c3
  have one3 := one_scB c3
  -- the first comparisons
  obtain ⟨s4, nb4, bs4, x4, g4, q4⟩ := box_sc o7 n7 (S4 ++ [[v3]]).length
  have c4 := q4 (S4 ++ [[v3]]) [] rfl
  rw [List.append_nil] at c4
  obtain ⟨v4, rfl⟩ := scB_agg c4
  have p6 : ∀ y, (S4 ++ [y])[i6]? = some [.sl tok ns] := fun y => app_get _ m6
  have p8 : ∀ y, (S4 ++ [y])[i8]? = some [v2] := fun y => app_get _ m8
  have p0 : ∀ y, (S4 ++ [y])[0]? = some [.sl .sh (nds l)] := fun y => app_get _ m0
  have hw : ∀ M, snapN 6 M (.agg [.sl tok ns]) = some (scE L) := fun M => snap_scO ow M
  have e9a : ∀ fl, Cl T fl 9 [.agg [v3], .agg [.sl tok ns]] ⟨S4 ++ [[v3]], tkw⟩ = some (.bool true, ⟨S4 ++ [[v3]], tkw⟩) := fun fl => cl9 fl _ _ _ L hdl hds (snap_scB (M := ⟨S4 ++ [[v3]], tkw⟩) (scB_app c3 _)) (hw _)
  have e7d : ∀ fl, Cl T fl 7 [.agg [.sl .sh (nds l)]] ⟨S4 ++ [[v3]], tkw⟩ = some (.agg [v4], ⟨S4 ++ [[v3]] ++ nb4, tkw⟩) := fun fl => h7 fl _ _ _ nb4 (by simp only [snapL, mapO, snap_sc]) x4
  have c2'' := scB_app (scB_app c2' [[v3]]) nb4
  have c3'' := scB_app (scB_app c3 [[v3]]) nb4
  have e9b : ∀ fl, Cl T fl 9 [.agg [v2], .agg [v4]] ⟨S4 ++ [[v3]] ++ nb4, tkw⟩ = some (.bool true, ⟨S4 ++ [[v3]] ++ nb4, tkw⟩) := fun fl => cl9 fl _ _ _ l hl' hs' (snap_scB (M := ⟨S4 ++ [[v3]] ++ nb4, tkw⟩) c2'') (snap_scB (M := ⟨S4 ++ [[v3]] ++ nb4, tkw⟩) c4)
  have u0 : (S4 ++ [[v3]] ++ nb4)[0]? = some [.sl .sh (nds l)] := app_get _ (p0 _)
  have u6 : (S4 ++ [[v3]] ++ nb4)[i6]? = some [.sl tok ns] := app_get _ (p6 _)
  have u8 : (S4 ++ [[v3]] ++ nb4)[i8]? = some [v2] := app_get _ (p8 _)
  have u9 : (S4 ++ [[v3]] ++ nb4)[S4.length]? = some [v3] := app_get _ (get_last _ _)
  simp only [p0, p6, p8, u0, u6, u8, u9, e9a, e7d, e9b, ↓one3, bne_self_eq_false, W_start, ↓WS_seq, ↓WS_reg, ↓WS_cond, ↓WS_ret, ↓WS_skip, ↓WS_exit, ↓WS_block, ↓WS_loop, ↓WE_nil, ↓WE_sq_n, ↓WE_sq_r, ↓WE_sq_x, ↓WE_bk_n, ↓WE_bk_r, ↓WE_bk_x, ↓WE_lp_n, ↓WE_lp_r, ↓WE_lp_x, ↓WR_nil, ↓WR_cons, ↓WR_guard, WV_some, WT_bool, WT_int, WT_str, WT_nil, WT_ptr, WT_adr, WT_sl, WT_agg, WT_tup, WT_fn, WT_bsl, WT_und, WT_any, WC_bool, WG_bool, WG_und, SOp.ev, X.ev, updO_some, updO_none, ↓upd_same, ↓upd_ne, ↓reduceIte, pick, argEnv_cons, argEnv_nil, bot_at, endQ, resL, resA, oneOrTup, abin, ibin, Nat.reduceEqDiff, if_true, if_false, Option.map_some, seal_bool, seal_int, cond_true, cond_false, Bool.false_eq_true, reduceCtorEq, decide_eq_true_eq, and_self, and_true, true_and, AV.known, AV.cells, cut, List.length_cons, List.length_nil, List.length_map, List.drop_zero, List.drop_succ_cons, List.getElem?_cons_zero, List.getElem?_cons_succ, List.getElem?_append_right, List.getElem?_map, Nat.zero_add, Nat.add_zero, Nat.reduceAdd, Nat.reduceLeDiff, Nat.le_refl, List.nil_append, List.length_append, Int.toNat_natCast, Int.natCast_nonneg, Bool.not_true, Bool.not_false, beq_iff_eq, List.take_succ_cons, List.take_zero, Nat.reduceSub, Nat.sub_self, Nat.reduceMul, Nat.mul_one, evL, ne_eq, not_false_eq_true, get_last, set_last, okE, AV.bd, AV.bdL, Bool.and_self, Bool.and_true, Bool.true_and, List.all_cons, List.all_nil, AV.one, lay, List.set_cons_zero, List.append_nil, beq_self_eq_true, List.drop_nil, evP, fillA, Bool.false_xor, Bool.true_xor, Option.map_none, List.cons_append, hdOk, List.set_cons_succ]
  -- the first marks
  have ri8 : ∀ j ∈ bs3, j < S4.length := scB_lt c3
  have lt6 : i6 < (S4 ++ [[v3]] ++ nb4).length := (List.getElem?_eq_some_iff.1 u6).1
  have lt8 : i8 < (S4 ++ [[v3]] ++ nb4).length := (List.getElem?_eq_some_iff.1 u8).1
  have lt9 : S4.length < (S4 ++ [[v3]] ++ nb4).length := (List.getElem?_eq_some_iff.1 u9).1
  have i86 : i6 < i8 ∨ i8 ≤ i6 := Nat.lt_or_ge _ _
  have lt84 : i8 < S4.length := (List.getElem?_eq_some_iff.1 m8).1
  generalize (S4 ++ [[v3]] ++ nb4) = S6 at *
  generalize S4.length = i9 at *
  obtain ⟨S7, e10, c7, l7, k7⟩ := cl10 (.agg [v2]) l bs2 hs' hl' S6 tkw c2'' g2.2.1
  refine WV_call e10 ?_
  have hkl := kL_le l 1 hs'
  have nk : ¬ (kL 1 l < 0) := by omega
  have w0 : S7[0]? = some [.sl .sh (nds l)] := by
    rw [k7 0 (by omega) (fun h => by have := (r2 _ h).2; omega)]; exact u0
  have w6 : S7[i6]? = some [.sl tok ns] := by
    rw [k7 i6 lt6 (fun h => by have := (r2 _ h).1; omega)]; exact u6
  have w9 : S7[i9]? = some [v3] := by
    rw [k7 i9 lt9 (fun h => by have := r2' _ h; omega)]; exact u9
  have c37 : scB S7 (.agg [v3]) L bs3 := scB_keep c3'' fun j hj => k7 j (by have := ri8 j hj; omega) fun h => by
    have := r2' _ h; have := (r3 j hj).1; omega
  have e9c : ∀ fl, Cl T fl 9 [.agg [v3], .agg [.sl tok ns]] ⟨S7, tkw⟩ = some (.bool true, ⟨S7, tkw⟩) := fun fl => cl9 fl _ _ _ L hdl hds (snap_scB (M := ⟨S7, tkw⟩) c37) (hw _)
  simp only [w6, w9, nk, e9c, bne_self_eq_false, W_start, ↓WS_seq, ↓WS_reg, ↓WS_cond, ↓WS_ret, ↓WS_skip, ↓WS_exit, ↓WS_block, ↓WS_loop, ↓WE_nil, ↓WE_sq_n, ↓WE_sq_r, ↓WE_sq_x, ↓WE_bk_n, ↓WE_bk_r, ↓WE_bk_x, ↓WE_lp_n, ↓WE_lp_r, ↓WE_lp_x, ↓WR_nil, ↓WR_cons, ↓WR_guard, WV_some, WT_bool, WT_int, WT_str, WT_nil, WT_ptr, WT_adr, WT_sl, WT_agg, WT_tup, WT_fn, WT_bsl, WT_und, WT_any, WC_bool, WG_bool, WG_und, SOp.ev, X.ev, updO_some, updO_none, ↓upd_same, ↓upd_ne, ↓reduceIte, pick, argEnv_cons, argEnv_nil, bot_at, endQ, resL, resA, oneOrTup, abin, ibin, Nat.reduceEqDiff, if_true, if_false, Option.map_some, seal_bool, seal_int, cond_true, cond_false, Bool.false_eq_true, reduceCtorEq, decide_eq_true_eq, and_self, and_true, true_and, AV.known, AV.cells, cut, List.length_cons, List.length_nil, List.length_map, List.drop_zero, List.drop_succ_cons, List.getElem?_cons_zero, List.getElem?_cons_succ, List.getElem?_append_right, List.getElem?_map, Nat.zero_add, Nat.add_zero, Nat.reduceAdd, Nat.reduceLeDiff, Nat.le_refl, List.nil_append, List.length_append, Int.toNat_natCast, Int.natCast_nonneg, Bool.not_true, Bool.not_false, beq_iff_eq, List.take_succ_cons, List.take_zero, Nat.reduceSub, Nat.sub_self, Nat.reduceMul, Nat.mul_one, evL, ne_eq, not_false_eq_true, get_last, set_last, okE, AV.bd, AV.bdL, Bool.and_self, Bool.and_true, Bool.true_and, List.all_cons, List.all_nil, AV.one, lay, List.set_cons_zero, List.append_nil, beq_self_eq_true, List.drop_nil, evP, fillA, Bool.false_xor, Bool.true_xor, Option.map_none, List.cons_append, hdOk, List.set_cons_succ]
  -- the marks in the answer
  obtain ⟨S8, e10', c8, l8, k8⟩ := cl10 (.agg [v3]) L bs3 hds hdl S7 tkw c37 g3.2.1
  refine WV_call e10' ?_
  have hkL := kL_le L 1 hds
  have nk' : ¬ (kL 1 L < 0) := by omega
  have y0 : S8[0]? = some [.sl .sh (nds l)] := by
    rw [k8 0 (by omega) (fun h => by have := (r3 _ h).2.2; omega)]; exact w0
  have y6 : S8[i6]? = some [.sl tok ns] := by
    rw [k8 i6 (by omega) (fun h => by have := (r3 _ h).2.1; omega)]; exact w6
  have y9 : S8[i9]? = some [v3] := by
    rw [k8 i9 (by omega) (fun h => by have := ri8 _ h; omega)]; exact w9
  have e11 : ∀ (R : List (List AV)) fl, Cl T fl 11 [.agg [v3], i64 1] ⟨S8 ++ R, tkw⟩ = some (i64 (kL 1 L), ⟨S8 ++ R, tkw⟩) := fun R fl => cl11 fl _ _ L hds hdl (snap_scB (M := ⟨S8 ++ R, tkw⟩) (scB_app c8 R))
  have e11' : ∀ fl, Cl T fl 11 [.agg [v3], i64 1] ⟨S8, tkw⟩ = some (i64 (kL 1 L), ⟨S8, tkw⟩) := fun fl => by
    have := e11 [] fl
    rwa [List.append_nil] at this
  simp only [y0, y9, nk', e11', bne_self_eq_false, W_start, ↓WS_seq, ↓WS_reg, ↓WS_cond, ↓WS_ret, ↓WS_skip, ↓WS_exit, ↓WS_block, ↓WS_loop, ↓WE_nil, ↓WE_sq_n, ↓WE_sq_r, ↓WE_sq_x, ↓WE_bk_n, ↓WE_bk_r, ↓WE_bk_x, ↓WE_lp_n, ↓WE_lp_r, ↓WE_lp_x, ↓WR_nil, ↓WR_cons, ↓WR_guard, WV_some, WT_bool, WT_int, WT_str, WT_nil, WT_ptr, WT_adr, WT_sl, WT_agg, WT_tup, WT_fn, WT_bsl, WT_und, WT_any, WC_bool, WG_bool, WG_und, SOp.ev, X.ev, updO_some, updO_none, ↓upd_same, ↓upd_ne, ↓reduceIte, pick, argEnv_cons, argEnv_nil, bot_at, endQ, resL, resA, oneOrTup, abin, ibin, Nat.reduceEqDiff, if_true, if_false, Option.map_some, seal_bool, seal_int, cond_true, cond_false, Bool.false_eq_true, reduceCtorEq, decide_eq_true_eq, and_self, and_true, true_and, AV.known, AV.cells, cut, List.length_cons, List.length_nil, List.length_map, List.drop_zero, List.drop_succ_cons, List.getElem?_cons_zero, List.getElem?_cons_succ, List.getElem?_append_right, List.getElem?_map, Nat.zero_add, Nat.add_zero, Nat.reduceAdd, Nat.reduceLeDiff, Nat.le_refl, List.nil_append, List.length_append, Int.toNat_natCast, Int.natCast_nonneg, Bool.not_true, Bool.not_false, beq_iff_eq, List.take_succ_cons, List.take_zero, Nat.reduceSub, Nat.sub_self, Nat.reduceMul, Nat.mul_one, evL, ne_eq, not_false_eq_true, get_last, set_last, okE, AV.bd, AV.bdL, Bool.and_self, Bool.and_true, Bool.true_and, List.all_cons, List.all_nil, AV.one, lay, List.set_cons_zero, List.append_nil, beq_self_eq_true, List.drop_nil, evP, fillA, Bool.false_xor, Bool.true_xor, Option.map_none, List.cons_append, hdOk, List.set_cons_succ]
  -- once more
  obtain ⟨s5, nb5, bs5, x5, g5, q5⟩ := box_sc o7 n7 S8.length
  refine WV_call (h7 true _ _ s5 nb5 (by simp only [snapL, mapO, snap_sc]) x5) ?_
  have c5 := q5 S8 [] rfl
  rw [List.append_nil] at c5
  obtain ⟨v5, rfl⟩ := scB_agg c5
  simp only [WTv (.agg [v5]), W_start, ↓WS_seq, ↓WS_reg, ↓WS_cond, ↓WS_ret, ↓WS_skip, ↓WS_exit, ↓WS_block, ↓WS_loop, ↓WE_nil, ↓WE_sq_n, ↓WE_sq_r, ↓WE_sq_x, ↓WE_bk_n, ↓WE_bk_r, ↓WE_bk_x, ↓WE_lp_n, ↓WE_lp_r, ↓WE_lp_x, ↓WR_nil, ↓WR_cons, ↓WR_guard, WV_some, WT_bool, WT_int, WT_str, WT_nil, WT_ptr, WT_adr, WT_sl, WT_agg, WT_tup, WT_fn, WT_bsl, WT_und, WT_any, WC_bool, WG_bool, WG_und, SOp.ev, X.ev, updO_some, updO_none, ↓upd_same, ↓upd_ne, ↓reduceIte, pick, argEnv_cons, argEnv_nil, bot_at, endQ, resL, resA, oneOrTup, abin, ibin, Nat.reduceEqDiff, if_true, if_false, Option.map_some, seal_bool, seal_int, cond_true, cond_false, Bool.false_eq_true, reduceCtorEq, decide_eq_true_eq, and_self, and_true, true_and, AV.known, AV.cells, cut, List.length_cons, List.length_nil, List.length_map, List.drop_zero, List.drop_succ_cons, List.getElem?_cons_zero, List.getElem?_cons_succ, List.getElem?_append_right, List.getElem?_map, Nat.zero_add, Nat.add_zero, Nat.reduceAdd, Nat.reduceLeDiff, Nat.le_refl, List.nil_append, List.length_append, Int.toNat_natCast, Int.natCast_nonneg, Bool.not_true, Bool.not_false, beq_iff_eq, List.take_succ_cons, List.take_zero, Nat.reduceSub, Nat.sub_self, Nat.reduceMul, Nat.mul_one, evL, ne_eq, not_false_eq_true, get_last, set_last, okE, AV.bd, AV.bdL, Bool.and_self, Bool.and_true, Bool.true_and, List.all_cons, List.all_nil, AV.one, lay, List.set_cons_zero, List.append_nil, beq_self_eq_true, List.drop_nil, evP, fillA, Bool.false_xor, Bool.true_xor, Option.map_none, List.cons_append, hdOk, List.set_cons_succ]
  obtain ⟨s6, nb6, bs6, x6, g6, q6⟩ := box_sci o8 n8 c (S8 ++ nb5).length
  refine WV_call (h8 true _ _ (.tup [s6, i64 c]) nb6 (by simp only [snapL, mapO, snap_scB (M := ⟨S8 ++ nb5, tkw⟩) c5, snap_i]) x6) ?_
  have c6 := q6 (S8 ++ nb5) [] rfl
  rw [List.append_nil] at c6
  obtain ⟨v6, rfl⟩ := scB_agg c6
  have one6 := one_scB c6
  have z6 : ∀ y, (S8 ++ nb5 ++ nb6 ++ [y])[i6]? = some [.sl tok ns] := fun y => app_get _ (app_get _ (app_get _ y6))
  have z9 : ∀ y, (S8 ++ nb5 ++ nb6 ++ [y])[i9]? = some [v3] := fun y => app_get _ (app_get _ (app_get _ y9))
  have e9d : ∀ fl, Cl T fl 9 [.agg [v6], .agg [.sl tok ns]] ⟨S8 ++ nb5 ++ nb6 ++ [[v6]], tkw⟩ = some (.bool true, ⟨S8 ++ nb5 ++ nb6 ++ [[v6]], tkw⟩) := fun fl => cl9 fl _ _ _ L hdl hds (snap_scB (M := ⟨S8 ++ nb5 ++ nb6 ++ [[v6]], tkw⟩) (scB_app c6 _)) (hw _)
  have e11b : ∀ fl, Cl T fl 11 [.agg [v3], i64 1] ⟨S8 ++ nb5 ++ nb6 ++ [[v6]], tkw⟩ = some (i64 (kL 1 L), ⟨S8 ++ nb5 ++ nb6 ++ [[v6]], tkw⟩) := fun fl => by
    have := e11 (nb5 ++ nb6 ++ [[v6]]) fl
    simpa only [List.append_assoc] using this
  clear e11 e11'
  generalize S8 ++ nb5 ++ nb6 = S10 at *
  simp only [z6, z9, e9d, e11b, nk', ↓one6, bne_self_eq_false, W_start, ↓WS_seq, ↓WS_reg, ↓WS_cond, ↓WS_ret, ↓WS_skip, ↓WS_exit, ↓WS_block, ↓WS_loop, ↓WE_nil, ↓WE_sq_n, ↓WE_sq_r, ↓WE_sq_x, ↓WE_bk_n, ↓WE_bk_r, ↓WE_bk_x, ↓WE_lp_n, ↓WE_lp_r, ↓WE_lp_x, ↓WR_nil, ↓WR_cons, ↓WR_guard, WV_some, WT_bool, WT_int, WT_str, WT_nil, WT_ptr, WT_adr, WT_sl, WT_agg, WT_tup, WT_fn, WT_bsl, WT_und, WT_any, WC_bool, WG_bool, WG_und, SOp.ev, X.ev, updO_some, updO_none, ↓upd_same, ↓upd_ne, ↓reduceIte, pick, argEnv_cons, argEnv_nil, bot_at, endQ, resL, resA, oneOrTup, abin, ibin, Nat.reduceEqDiff, if_true, if_false, Option.map_some, seal_bool, seal_int, cond_true, cond_false, Bool.false_eq_true, reduceCtorEq, decide_eq_true_eq, and_self, and_true, true_and, AV.known, AV.cells, cut, List.length_cons, List.length_nil, List.length_map, List.drop_zero, List.drop_succ_cons, List.getElem?_cons_zero, List.getElem?_cons_succ, List.getElem?_append_right, List.getElem?_map, Nat.zero_add, Nat.add_zero, Nat.reduceAdd, Nat.reduceLeDiff, Nat.le_refl, List.nil_append, List.length_append, Int.toNat_natCast, Int.natCast_nonneg, Bool.not_true, Bool.not_false, beq_iff_eq, List.take_succ_cons, List.take_zero, Nat.reduceSub, Nat.sub_self, Nat.reduceMul, Nat.mul_one, evL, ne_eq, not_false_eq_true, get_last, set_last, okE, AV.bd, AV.bdL, Bool.and_self, Bool.and_true, Bool.true_and, List.all_cons, List.all_nil, AV.one, lay, List.set_cons_zero, List.append_nil, beq_self_eq_true, List.drop_nil, evP, fillA, Bool.false_xor, Bool.true_xor, Option.map_none, List.cons_append, hdOk, List.set_cons_succ]
end Go.Proofs.Ytnehpfaafgnnpaa
