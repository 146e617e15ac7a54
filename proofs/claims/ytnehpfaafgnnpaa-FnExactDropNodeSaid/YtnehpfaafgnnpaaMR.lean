/- Index, Contains, UnderOf. -/
import Derived.Test.YtnehpfaafgnnpaaMQ
set_option linter.unusedSimpArgs false
set_option linter.unusedVariables false
set_option linter.unnecessarySimpa false
namespace Go.Proofs.Ytnehpfaafgnnpaa
open Go.AM Go.AM.AV

def fndI (x : Int) : Nat → List Int → Int
  | _, [] => -1
  | i, y :: r => if x = y then i else fndI x (i + 1) r
theorem fndI_ge (x : Int) : ∀ (l : List Int) (i : Nat), (0 ≤ fndI x i l ↔ x ∈ l)
  | [], i => by simp [fndI]
  | y :: r, i => by
    by_cases h : x = y
    · simp [fndI, h]
    · simp only [fndI, h, if_false, fndI_ge x r (i + 1), List.mem_cons, false_or]

theorem lp48 (l : List Int) (x : Int) (hl : l.length < 4611686018427387904) (st : List Fr) (M : Mem) (Q : Ex → Env → Mem → Prop) :
    ∀ i, i ≤ l.length →
      (∀ e : Env, e 4 = i64 (fndI x i (l.drop i)) → WE T .ret st e M Q) →
      (fndI x i (l.drop i) = -1 → ∀ e : Env, WE T (.exit 0) st e M Q) →
      WL T [0, 1, 4, 7, 8] f48L0 st (upd (upd (upd (upd (upd bot 8 (i64 i)) 7 (i64 l.length)) 4 (i64 0)) 1 (i64 x)) 0 (.sl .sh (ints l))) M Q := by
  refine upto _ ?_ fun i hi ih hr hx => ?_
  · intro hr hx
    rw [List.drop_length] at hx
    rw [WL_go (a := f48L0) (b := f48L0b) rfl]
    simp only [f48L0b, Int.lt_irrefl, W_start, ↓WS_seq, ↓WS_reg, ↓WS_cond, ↓WS_ret, ↓WS_skip, ↓WS_exit, ↓WS_block, ↓WS_loop, ↓WE_nil, ↓WE_sq_n, ↓WE_sq_r, ↓WE_sq_x, ↓WE_bk_n, ↓WE_bk_r, ↓WE_bk_x, ↓WE_lp_n, ↓WE_lp_r, ↓WE_lp_x, ↓WR_nil, ↓WR_cons, ↓WR_guard, WV_some, WT_bool, WT_int, WT_str, WT_nil, WT_ptr, WT_adr, WT_sl, WT_agg, WT_tup, WT_fn, WT_bsl, WT_und, WT_any, WC_bool, WG_bool, WG_und, SOp.ev, X.ev, updO_some, updO_none, ↓upd_same, ↓upd_ne, ↓reduceIte, pick, argEnv_cons, argEnv_nil, bot_at, endQ, resL, resA, oneOrTup, abin, ibin, Nat.reduceEqDiff, if_true, if_false, Option.map_some, seal_bool, seal_int, cond_true, cond_false, Bool.false_eq_true, reduceCtorEq, decide_eq_true_eq, and_self, and_true, true_and, AV.known, AV.cells, cut, List.length_cons, List.length_nil, List.length_map, List.drop_zero, List.drop_succ_cons, List.getElem?_cons_zero, List.getElem?_cons_succ, List.getElem?_append_right, List.getElem?_map, Nat.zero_add, Nat.add_zero, Nat.reduceAdd, Nat.reduceLeDiff, Nat.le_refl, List.nil_append, List.length_append, Int.toNat_natCast, Int.natCast_nonneg, Bool.not_true, Bool.not_false, beq_iff_eq, List.take_succ_cons, List.take_zero, Nat.reduceSub, Nat.sub_self, Nat.reduceMul, Nat.mul_one, evL, ne_eq, not_false_eq_true, get_last, set_last, okE, AV.bd, AV.bdL, Bool.and_self, Bool.and_true, Bool.true_and, List.all_cons, List.all_nil, AV.one, lay, List.set_cons_zero, List.append_nil, beq_self_eq_true, List.drop_nil, evP, fillA, Bool.false_xor, Bool.true_xor, Option.map_none, List.cons_append, hdOk, List.set_cons_succ]
    exact hx rfl _
  · have hget : l[i]? = some l[i] := List.getElem?_eq_getElem hi
    have hlt' : (i : Int) < l.length := by omega
    rw [List.drop_eq_getElem_cons hi] at hr hx
    have hw1 : IntKind.i64.wrap ((i : Int) + 1) = i + 1 := wrap_ok (by omega)
    rw [WL_go (a := f48L0) (b := f48L0b) rfl]
    by_cases hp : x = l[i]
    · simp only [fndI, hp, if_true] at hr
      simp only [f48L0b, ints, hget, hlt', hw1, hp, W_start, ↓WS_seq, ↓WS_reg, ↓WS_cond, ↓WS_ret, ↓WS_skip, ↓WS_exit, ↓WS_block, ↓WS_loop, ↓WE_nil, ↓WE_sq_n, ↓WE_sq_r, ↓WE_sq_x, ↓WE_bk_n, ↓WE_bk_r, ↓WE_bk_x, ↓WE_lp_n, ↓WE_lp_r, ↓WE_lp_x, ↓WR_nil, ↓WR_cons, ↓WR_guard, WV_some, WT_bool, WT_int, WT_str, WT_nil, WT_ptr, WT_adr, WT_sl, WT_agg, WT_tup, WT_fn, WT_bsl, WT_und, WT_any, WC_bool, WG_bool, WG_und, SOp.ev, X.ev, updO_some, updO_none, ↓upd_same, ↓upd_ne, ↓reduceIte, pick, argEnv_cons, argEnv_nil, bot_at, endQ, resL, resA, oneOrTup, abin, ibin, Nat.reduceEqDiff, if_true, if_false, Option.map_some, seal_bool, seal_int, cond_true, cond_false, Bool.false_eq_true, reduceCtorEq, decide_eq_true_eq, and_self, and_true, true_and, AV.known, AV.cells, cut, List.length_cons, List.length_nil, List.length_map, List.drop_zero, List.drop_succ_cons, List.getElem?_cons_zero, List.getElem?_cons_succ, List.getElem?_append_right, List.getElem?_map, Nat.zero_add, Nat.add_zero, Nat.reduceAdd, Nat.reduceLeDiff, Nat.le_refl, List.nil_append, List.length_append, Int.toNat_natCast, Int.natCast_nonneg, Bool.not_true, Bool.not_false, beq_iff_eq, List.take_succ_cons, List.take_zero, Nat.reduceSub, Nat.sub_self, Nat.reduceMul, Nat.mul_one, evL, ne_eq, not_false_eq_true, get_last, set_last, okE, AV.bd, AV.bdL, Bool.and_self, Bool.and_true, Bool.true_and, List.all_cons, List.all_nil, AV.one, lay, List.set_cons_zero, List.append_nil, beq_self_eq_true, List.drop_nil, evP, fillA, Bool.false_xor, Bool.true_xor, Option.map_none, List.cons_append, hdOk, List.set_cons_succ]
      exact hr _ rfl
    · simp only [fndI, hp, if_false] at hr hx
      simp only [f48L0b, ints, hget, hlt', hw1, hp, W_start, ↓WS_seq, ↓WS_reg, ↓WS_cond, ↓WS_ret, ↓WS_skip, ↓WS_exit, ↓WS_block, ↓WS_loop, ↓WE_nil, ↓WE_sq_n, ↓WE_sq_r, ↓WE_sq_x, ↓WE_bk_n, ↓WE_bk_r, ↓WE_bk_x, ↓WE_lp_n, ↓WE_lp_r, ↓WE_lp_x, ↓WR_nil, ↓WR_cons, ↓WR_guard, WV_some, WT_bool, WT_int, WT_str, WT_nil, WT_ptr, WT_adr, WT_sl, WT_agg, WT_tup, WT_fn, WT_bsl, WT_und, WT_any, WC_bool, WG_bool, WG_und, SOp.ev, X.ev, updO_some, updO_none, ↓upd_same, ↓upd_ne, ↓reduceIte, pick, argEnv_cons, argEnv_nil, bot_at, endQ, resL, resA, oneOrTup, abin, ibin, Nat.reduceEqDiff, if_true, if_false, Option.map_some, seal_bool, seal_int, cond_true, cond_false, Bool.false_eq_true, reduceCtorEq, decide_eq_true_eq, and_self, and_true, true_and, AV.known, AV.cells, cut, List.length_cons, List.length_nil, List.length_map, List.drop_zero, List.drop_succ_cons, List.getElem?_cons_zero, List.getElem?_cons_succ, List.getElem?_append_right, List.getElem?_map, Nat.zero_add, Nat.add_zero, Nat.reduceAdd, Nat.reduceLeDiff, Nat.le_refl, List.nil_append, List.length_append, Int.toNat_natCast, Int.natCast_nonneg, Bool.not_true, Bool.not_false, beq_iff_eq, List.take_succ_cons, List.take_zero, Nat.reduceSub, Nat.sub_self, Nat.reduceMul, Nat.mul_one, evL, ne_eq, not_false_eq_true, get_last, set_last, okE, AV.bd, AV.bdL, Bool.and_self, Bool.and_true, Bool.true_and, List.all_cons, List.all_nil, AV.one, lay, List.set_cons_zero, List.append_nil, beq_self_eq_true, List.drop_nil, evP, fillA, Bool.false_xor, Bool.true_xor, Option.map_none, List.cons_append, hdOk, List.set_cons_succ]
      exact ih hr hx

theorem cl48 (fl : Bool) (M : Mem) (t : Tok) (l : List Int) (x : Int) (hl : l.length < 4611686018427387904) : Cl T fl 48 [.sl t (ints l), i64 x] M = some (i64 (fndI x 0 l), M) := by
  refine cl_pure (r := i64 (fndI x 0 l)) (ar := [.sl .sh (ints l), i64 x]) T_e48 T_f48 rfl (by simp only [snapL, mapO, snap_ints, snap_i]) (Nat.le_of_ble_eq_true rfl) ?_
  have hlen : (ints l).length = l.length := by simp [ints]
  simp only [f48S, f48B, hlen, W_start, ↓WS_seq, ↓WS_reg, ↓WS_cond, ↓WS_ret, ↓WS_skip, ↓WS_exit, ↓WS_block, ↓WS_loop, ↓WE_nil, ↓WE_sq_n, ↓WE_sq_r, ↓WE_sq_x, ↓WE_bk_n, ↓WE_bk_r, ↓WE_bk_x, ↓WE_lp_n, ↓WE_lp_r, ↓WE_lp_x, ↓WR_nil, ↓WR_cons, ↓WR_guard, WV_some, WT_bool, WT_int, WT_str, WT_nil, WT_ptr, WT_adr, WT_sl, WT_agg, WT_tup, WT_fn, WT_bsl, WT_und, WT_any, WC_bool, WG_bool, WG_und, SOp.ev, X.ev, updO_some, updO_none, ↓upd_same, ↓upd_ne, ↓reduceIte, pick, argEnv_cons, argEnv_nil, bot_at, endQ, resL, resA, oneOrTup, abin, ibin, Nat.reduceEqDiff, if_true, if_false, Option.map_some, seal_bool, seal_int, cond_true, cond_false, Bool.false_eq_true, reduceCtorEq, decide_eq_true_eq, and_self, and_true, true_and, AV.known, AV.cells, cut, List.length_cons, List.length_nil, List.length_map, List.drop_zero, List.drop_succ_cons, List.getElem?_cons_zero, List.getElem?_cons_succ, List.getElem?_append_right, List.getElem?_map, Nat.zero_add, Nat.add_zero, Nat.reduceAdd, Nat.reduceLeDiff, Nat.le_refl, List.nil_append, List.length_append, Int.toNat_natCast, Int.natCast_nonneg, Bool.not_true, Bool.not_false, beq_iff_eq, List.take_succ_cons, List.take_zero, Nat.reduceSub, Nat.sub_self, Nat.reduceMul, Nat.mul_one, evL, ne_eq, not_false_eq_true, get_last, set_last, okE, AV.bd, AV.bdL, Bool.and_self, Bool.and_true, Bool.true_and, List.all_cons, List.all_nil, AV.one, lay, List.set_cons_zero, List.append_nil, beq_self_eq_true, List.drop_nil, evP, fillA, Bool.false_xor, Bool.true_xor, Option.map_none, List.cons_append, hdOk, List.set_cons_succ]
  refine lp48 l x hl _ _ _ 0 (Nat.zero_le _) (fun e he => ?_) (fun h e => ?_)
  · simp only [he, List.drop_zero, W_start, ↓WS_seq, ↓WS_reg, ↓WS_cond, ↓WS_ret, ↓WS_skip, ↓WS_exit, ↓WS_block, ↓WS_loop, ↓WE_nil, ↓WE_sq_n, ↓WE_sq_r, ↓WE_sq_x, ↓WE_bk_n, ↓WE_bk_r, ↓WE_bk_x, ↓WE_lp_n, ↓WE_lp_r, ↓WE_lp_x, ↓WR_nil, ↓WR_cons, ↓WR_guard, WV_some, WT_bool, WT_int, WT_str, WT_nil, WT_ptr, WT_adr, WT_sl, WT_agg, WT_tup, WT_fn, WT_bsl, WT_und, WT_any, WC_bool, WG_bool, WG_und, SOp.ev, X.ev, updO_some, updO_none, ↓upd_same, ↓upd_ne, ↓reduceIte, pick, argEnv_cons, argEnv_nil, bot_at, endQ, resL, resA, oneOrTup, abin, ibin, Nat.reduceEqDiff, if_true, if_false, Option.map_some, seal_bool, seal_int, cond_true, cond_false, Bool.false_eq_true, reduceCtorEq, decide_eq_true_eq, and_self, and_true, true_and, AV.known, AV.cells, cut, List.length_cons, List.length_nil, List.length_map, List.drop_zero, List.drop_succ_cons, List.getElem?_cons_zero, List.getElem?_cons_succ, List.getElem?_append_right, List.getElem?_map, Nat.zero_add, Nat.add_zero, Nat.reduceAdd, Nat.reduceLeDiff, Nat.le_refl, List.nil_append, List.length_append, Int.toNat_natCast, Int.natCast_nonneg, Bool.not_true, Bool.not_false, beq_iff_eq, List.take_succ_cons, List.take_zero, Nat.reduceSub, Nat.sub_self, Nat.reduceMul, Nat.mul_one, evL, ne_eq, not_false_eq_true, get_last, set_last, okE, AV.bd, AV.bdL, Bool.and_self, Bool.and_true, Bool.true_and, List.all_cons, List.all_nil, AV.one, lay, List.set_cons_zero, List.append_nil, beq_self_eq_true, List.drop_nil, evP, fillA, Bool.false_xor, Bool.true_xor, Option.map_none, List.cons_append, hdOk, List.set_cons_succ]
  · rw [List.drop_zero] at h
    simp only [h, W_start, ↓WS_seq, ↓WS_reg, ↓WS_cond, ↓WS_ret, ↓WS_skip, ↓WS_exit, ↓WS_block, ↓WS_loop, ↓WE_nil, ↓WE_sq_n, ↓WE_sq_r, ↓WE_sq_x, ↓WE_bk_n, ↓WE_bk_r, ↓WE_bk_x, ↓WE_lp_n, ↓WE_lp_r, ↓WE_lp_x, ↓WR_nil, ↓WR_cons, ↓WR_guard, WV_some, WT_bool, WT_int, WT_str, WT_nil, WT_ptr, WT_adr, WT_sl, WT_agg, WT_tup, WT_fn, WT_bsl, WT_und, WT_any, WC_bool, WG_bool, WG_und, SOp.ev, X.ev, updO_some, updO_none, ↓upd_same, ↓upd_ne, ↓reduceIte, pick, argEnv_cons, argEnv_nil, bot_at, endQ, resL, resA, oneOrTup, abin, ibin, Nat.reduceEqDiff, if_true, if_false, Option.map_some, seal_bool, seal_int, cond_true, cond_false, Bool.false_eq_true, reduceCtorEq, decide_eq_true_eq, and_self, and_true, true_and, AV.known, AV.cells, cut, List.length_cons, List.length_nil, List.length_map, List.drop_zero, List.drop_succ_cons, List.getElem?_cons_zero, List.getElem?_cons_succ, List.getElem?_append_right, List.getElem?_map, Nat.zero_add, Nat.add_zero, Nat.reduceAdd, Nat.reduceLeDiff, Nat.le_refl, List.nil_append, List.length_append, Int.toNat_natCast, Int.natCast_nonneg, Bool.not_true, Bool.not_false, beq_iff_eq, List.take_succ_cons, List.take_zero, Nat.reduceSub, Nat.sub_self, Nat.reduceMul, Nat.mul_one, evL, ne_eq, not_false_eq_true, get_last, set_last, okE, AV.bd, AV.bdL, Bool.and_self, Bool.and_true, Bool.true_and, List.all_cons, List.all_nil, AV.one, lay, List.set_cons_zero, List.append_nil, beq_self_eq_true, List.drop_nil, evP, fillA, Bool.false_xor, Bool.true_xor, Option.map_none, List.cons_append, hdOk, List.set_cons_succ]

theorem cl27 (fl : Bool) (M : Mem) (t : Tok) (l : List Int) (x : Int) (hl : l.length < 4611686018427387904) : Cl T fl 27 [.sl t (ints l), i64 x] M = some (.bool (decide (x ∈ l)), M) := by
  refine cl_pure (r := .bool (decide (x ∈ l))) (ar := [.sl .sh (ints l), i64 x]) T_e27 T_f27 rfl (by simp only [snapL, mapO, snap_ints, snap_i]) (Nat.le_of_ble_eq_true rfl) ?_
  simp only [f27S, f27B, cl48 _ _ _ _ _ hl, ge_iff_le, fndI_ge, W_start, ↓WS_seq, ↓WS_reg, ↓WS_cond, ↓WS_ret, ↓WS_skip, ↓WS_exit, ↓WS_block, ↓WS_loop, ↓WE_nil, ↓WE_sq_n, ↓WE_sq_r, ↓WE_sq_x, ↓WE_bk_n, ↓WE_bk_r, ↓WE_bk_x, ↓WE_lp_n, ↓WE_lp_r, ↓WE_lp_x, ↓WR_nil, ↓WR_cons, ↓WR_guard, WV_some, WT_bool, WT_int, WT_str, WT_nil, WT_ptr, WT_adr, WT_sl, WT_agg, WT_tup, WT_fn, WT_bsl, WT_und, WT_any, WC_bool, WG_bool, WG_und, SOp.ev, X.ev, updO_some, updO_none, ↓upd_same, ↓upd_ne, ↓reduceIte, pick, argEnv_cons, argEnv_nil, bot_at, endQ, resL, resA, oneOrTup, abin, ibin, Nat.reduceEqDiff, if_true, if_false, Option.map_some, seal_bool, seal_int, cond_true, cond_false, Bool.false_eq_true, reduceCtorEq, decide_eq_true_eq, and_self, and_true, true_and, AV.known, AV.cells, cut, List.length_cons, List.length_nil, List.length_map, List.drop_zero, List.drop_succ_cons, List.getElem?_cons_zero, List.getElem?_cons_succ, List.getElem?_append_right, List.getElem?_map, Nat.zero_add, Nat.add_zero, Nat.reduceAdd, Nat.reduceLeDiff, Nat.le_refl, List.nil_append, List.length_append, Int.toNat_natCast, Int.natCast_nonneg, Bool.not_true, Bool.not_false, beq_iff_eq, List.take_succ_cons, List.take_zero, Nat.reduceSub, Nat.sub_self, Nat.reduceMul, Nat.mul_one, evL, ne_eq, not_false_eq_true, get_last, set_last, okE, AV.bd, AV.bdL, Bool.and_self, Bool.and_true, Bool.true_and, List.all_cons, List.all_nil, AV.one, lay, List.set_cons_zero, List.append_nil, beq_self_eq_true, List.drop_nil, evP, fillA, Bool.false_xor, Bool.true_xor, Option.map_none, List.cons_append, hdOk, List.set_cons_succ]
  refine ite_i (fun h => ?_) (fun h => ?_)
  · rw [decide_eq_true_iff.2 h]
  · rw [decide_eq_false_iff_not.2 h]

/-- The closure of impl.DropNode. -/
theorem cl26 (fl : Bool) (M : Mem) (args : List AV) (n : Nd) (u : List Int) (hl : u.length < 4611686018427387904) (hs : snapL M args = some [.agg (ndC n), .adr [.sl .sh (ints u)]]) : Cl T fl 26 args M = some (.bool (decide (n.id ∈ u)), M) := by
  refine cl_pure (r := .bool (decide (n.id ∈ u))) (ar := [.agg (ndC n), .adr [.sl .sh (ints u)]]) T_e26 T_f26 rfl hs (Nat.le_of_ble_eq_true rfl) ?_
  simp only [f26S, f26B, cl27 _ _ _ _ _ hl, len_nd, ↓cut_nd, all_nd, bdL_nd, ↓lay_nd, nd_0, nd_1, nd_2, List.getElem?_drop, List.length_drop, W_start, ↓WS_seq, ↓WS_reg, ↓WS_cond, ↓WS_ret, ↓WS_skip, ↓WS_exit, ↓WS_block, ↓WS_loop, ↓WE_nil, ↓WE_sq_n, ↓WE_sq_r, ↓WE_sq_x, ↓WE_bk_n, ↓WE_bk_r, ↓WE_bk_x, ↓WE_lp_n, ↓WE_lp_r, ↓WE_lp_x, ↓WR_nil, ↓WR_cons, ↓WR_guard, WV_some, WT_bool, WT_int, WT_str, WT_nil, WT_ptr, WT_adr, WT_sl, WT_agg, WT_tup, WT_fn, WT_bsl, WT_und, WT_any, WC_bool, WG_bool, WG_und, SOp.ev, X.ev, updO_some, updO_none, ↓upd_same, ↓upd_ne, ↓reduceIte, pick, argEnv_cons, argEnv_nil, bot_at, endQ, resL, resA, oneOrTup, abin, ibin, Nat.reduceEqDiff, if_true, if_false, Option.map_some, seal_bool, seal_int, cond_true, cond_false, Bool.false_eq_true, reduceCtorEq, decide_eq_true_eq, and_self, and_true, true_and, AV.known, AV.cells, cut, List.length_cons, List.length_nil, List.length_map, List.drop_zero, List.drop_succ_cons, List.getElem?_cons_zero, List.getElem?_cons_succ, List.getElem?_append_right, List.getElem?_map, Nat.zero_add, Nat.add_zero, Nat.reduceAdd, Nat.reduceLeDiff, Nat.le_refl, List.nil_append, List.length_append, Int.toNat_natCast, Int.natCast_nonneg, Bool.not_true, Bool.not_false, beq_iff_eq, List.take_succ_cons, List.take_zero, Nat.reduceSub, Nat.sub_self, Nat.reduceMul, Nat.mul_one, evL, ne_eq, not_false_eq_true, get_last, set_last, okE, AV.bd, AV.bdL, Bool.and_self, Bool.and_true, Bool.true_and, List.all_cons, List.all_nil, AV.one, lay, List.set_cons_zero, List.append_nil, beq_self_eq_true, List.drop_nil, evP, fillA, Bool.false_xor, Bool.true_xor, Option.map_none, List.cons_append, hdOk, List.set_cons_succ]
  refine ite_i (fun h => ?_) (fun h => ?_)
  · rw [decide_eq_true_iff.2 h]
  · rw [decide_eq_false_iff_not.2 h]

/-! ### A slice that is appended to -/
def accT (sz : Nat) (t : Tok) (n : Nat) (tk : List (Nat × Nat)) : Prop := (t = .nl ∧ n = 0) ∨ ∃ i, t = .ow i ∧ tk[i]? = some (n, sz)
theorem accT_mono {sz n : Nat} {t : Tok} {tk : List (Nat × Nat)} (h : accT sz t n tk) (ts : List (Nat × Nat)) : accT sz t n (tk ++ ts) := by
  rcases h with h | ⟨i, h, hi⟩
  · exact Or.inl h
  · refine Or.inr ⟨i, h, ?_⟩
    rw [List.getElem?_append_left]
    · exact hi
    · exact (List.getElem?_eq_some_iff.1 hi).1
theorem app_acc {sz bytes : Nat} {t : Tok} {xs ys : List AV} {tk : List (Nat × Nat)} (ht : accT sz t xs.length tk) (hy : ys.all (okE sz) = true) (hne : ys ≠ []) (hb : (xs.length + ys.length) * bytes ≤ 140737488355328) (hz : 0 < sz) :
    ∃ t' tk', (∀ B, appA sz bytes t xs ys ⟨B, tk⟩ = some (.sl t' (xs ++ ys), ⟨B, tk'⟩)) ∧ accT sz t' (xs ++ ys).length tk' ∧ tk.length ≤ tk'.length ∧ (∃ i, t' = .ow i ∧ i < tk'.length ∧ (t = .ow i ∨ tk.length ≤ i)) := by
  rcases ht with ⟨rfl, h0⟩ | ⟨i, rfl, hi⟩
  · obtain rfl : xs = [] := List.length_eq_zero_iff.1 h0
    cases ys with
    | nil => exact absurd rfl hne
    | cons y r =>
      refine ⟨.ow tk.length, tk ++ [((y :: r).length, sz)], fun B => ?_, Or.inr ⟨tk.length, rfl, by simp⟩, by simp, tk.length, rfl, by simp, Or.inr (Nat.le_refl _)⟩
      unfold appA
      rw [if_pos ⟨hy, hb, hz⟩]
      rfl
  · have hlt := (List.getElem?_eq_some_iff.1 hi).1
    refine ⟨.ow i, tk.set i ((xs ++ ys).length, sz), fun B => ?_, Or.inr ⟨i, rfl, by simp [hlt]⟩, by simp, i, rfl, by simpa using hlt, Or.inl rfl⟩
    unfold appA
    rw [if_pos ⟨hy, hb, hz⟩]
    simp only [hi, if_true]

/-! ### impl.UnderOf -/
def underF (l : List Nd) (id : Int) (r : List Nd) : List Int := (r.filter fun n => underS l n.id id).map (·.id)
def underL (l : List Nd) (id : Int) : List Int := if posI id l < 0 then [] else underF l id l

set_option maxRecDepth 100000 in
theorem lp24 (l : List Nd) (id : Int) (hl : l.length ≤ 1048576) (st : List Fr) (Q : Ex → Env → Mem → Prop) :
    ∀ i, i ≤ l.length → ∀ (M : Mem) (t : Tok) (u : List Int), M.boxes[0]? = some [.sl .sh (nds l)] → accT 1 t u.length M.toks → u.length ≤ i →
      (∀ (e : Env) (M : Mem) (t' : Tok), e 5 = .sl t' (ints (u ++ underF l id (l.drop i))) → (t' = .nl ∧ u ++ underF l id (l.drop i) = [] ∨ ∃ j, t' = .ow j) → WE T (.exit 0) st e M Q) →
      WL T [1, 2, 5, 13, 14, 15] f24L0 st (upd (upd (upd (upd (upd (upd bot 15 (i64 i)) 14 (i64 l.length)) 13 (.sl .sh (nds l))) 5 (.sl t (ints u))) 2 (.ptr 0 0)) 1 (i64 id)) M Q := by
  have hl' : l.length < 4611686018427387904 := by omega
  refine upto _ ?_ fun i hi ih M t u hM ht hu hx => ?_
  · intro M t u hM ht hu hx
    rw [List.drop_length] at hx
    rw [WL_go (a := f24L0) (b := f24L0b) rfl]
    simp only [f24L0b, Int.lt_irrefl, W_start, ↓WS_seq, ↓WS_reg, ↓WS_cond, ↓WS_ret, ↓WS_skip, ↓WS_exit, ↓WS_block, ↓WS_loop, ↓WE_nil, ↓WE_sq_n, ↓WE_sq_r, ↓WE_sq_x, ↓WE_bk_n, ↓WE_bk_r, ↓WE_bk_x, ↓WE_lp_n, ↓WE_lp_r, ↓WE_lp_x, ↓WR_nil, ↓WR_cons, ↓WR_guard, WV_some, WT_bool, WT_int, WT_str, WT_nil, WT_ptr, WT_adr, WT_sl, WT_agg, WT_tup, WT_fn, WT_bsl, WT_und, WT_any, WC_bool, WG_bool, WG_und, SOp.ev, X.ev, updO_some, updO_none, ↓upd_same, ↓upd_ne, ↓reduceIte, pick, argEnv_cons, argEnv_nil, bot_at, endQ, resL, resA, oneOrTup, abin, ibin, Nat.reduceEqDiff, if_true, if_false, Option.map_some, seal_bool, seal_int, cond_true, cond_false, Bool.false_eq_true, reduceCtorEq, decide_eq_true_eq, and_self, and_true, true_and, AV.known, AV.cells, cut, List.length_cons, List.length_nil, List.length_map, List.drop_zero, List.drop_succ_cons, List.getElem?_cons_zero, List.getElem?_cons_succ, List.getElem?_append_right, List.getElem?_map, Nat.zero_add, Nat.add_zero, Nat.reduceAdd, Nat.reduceLeDiff, Nat.le_refl, List.nil_append, List.length_append, Int.toNat_natCast, Int.natCast_nonneg, Bool.not_true, Bool.not_false, beq_iff_eq, List.take_succ_cons, List.take_zero, Nat.reduceSub, Nat.sub_self, Nat.reduceMul, Nat.mul_one, evL, ne_eq, not_false_eq_true, get_last, set_last, okE, AV.bd, AV.bdL, Bool.and_self, Bool.and_true, Bool.true_and, List.all_cons, List.all_nil, AV.one, lay, List.set_cons_zero, List.append_nil, beq_self_eq_true, List.drop_nil, evP, fillA, Bool.false_xor, Bool.true_xor, Option.map_none, List.cons_append, hdOk, List.set_cons_succ]
    refine hx _ _ t ?_ ?_
    · show AV.sl t (ints u) = _
      simp [underF]
    · rcases ht with ⟨h1, h2⟩ | ⟨j, h1, h2⟩
      · exact Or.inl ⟨h1, by simp [underF, List.length_eq_zero_iff.1 h2]⟩
      · exact Or.inr ⟨j, h1⟩
  · have hget : l[i]? = some l[i] := List.getElem?_eq_getElem hi
    have hnds : (nds l)[i]? = some (.agg (ndC l[i])) := by simp only [nds, List.getElem?_map, hget, Option.map_some, ndE]
    have hlt' : (i : Int) < l.length := by omega
    have hM2 : ∀ x, (M.boxes ++ [x])[0]? = some [.sl .sh (nds l)] := fun x => head_app hM _
    rw [List.drop_eq_getElem_cons hi] at hx
    have hw1 : IntKind.i64.wrap ((i : Int) + 1) = i + 1 := wrap_ok (by omega)
    generalize l[i] = n at *
    rw [WL_go (a := f24L0) (b := f24L0b) rfl]
    have hs : snapN 6 ⟨M.boxes ++ [ndC n], M.toks⟩ (.ptr 0 0) = some (.adr [.sl .sh (nds l)]) := by
      simp only [snapN, hM2, List.drop_zero, mapO, datL_nds, erL_nds, if_true, Option.map_some]
    have h47 := fun fl => cl47 fl ⟨M.boxes ++ [ndC n], M.toks⟩ (.ptr 0 0) l n.id id hl' hs
    obtain ⟨t', tk', happ, hacc, -, j, hj, -⟩ := app_acc (bytes := 8) (xs := ints u) (ys := [i64 n.id]) (accT_mono (show accT 1 t (ints u).length M.toks by simpa [ints] using ht) [(1, 1)]) rfl (by simp) (by simp [ints]; omega) (by omega)
    cases hc : underS l n.id id with
    | true =>
      have hf : u ++ underF l id (n :: l.drop (i + 1)) = (u ++ [n.id]) ++ underF l id (l.drop (i + 1)) := by simp [underF, hc]
      rw [hf] at hx
      have hints : ints u ++ [i64 n.id] = ints (u ++ [n.id]) := by simp [ints]
      rw [hints] at happ hacc
      simp only [f24L0b, hM, hM2, hnds, hlt', hw1, h47, happ, hc, len_nd, ↓cut_nd, all_nd, bdL_nd, ↓lay_nd, nd_0, nd_1, nd_2, List.getElem?_drop, List.length_drop, W_start, ↓WS_seq, ↓WS_reg, ↓WS_cond, ↓WS_ret, ↓WS_skip, ↓WS_exit, ↓WS_block, ↓WS_loop, ↓WE_nil, ↓WE_sq_n, ↓WE_sq_r, ↓WE_sq_x, ↓WE_bk_n, ↓WE_bk_r, ↓WE_bk_x, ↓WE_lp_n, ↓WE_lp_r, ↓WE_lp_x, ↓WR_nil, ↓WR_cons, ↓WR_guard, WV_some, WT_bool, WT_int, WT_str, WT_nil, WT_ptr, WT_adr, WT_sl, WT_agg, WT_tup, WT_fn, WT_bsl, WT_und, WT_any, WC_bool, WG_bool, WG_und, SOp.ev, X.ev, updO_some, updO_none, ↓upd_same, ↓upd_ne, ↓reduceIte, pick, argEnv_cons, argEnv_nil, bot_at, endQ, resL, resA, oneOrTup, abin, ibin, Nat.reduceEqDiff, if_true, if_false, Option.map_some, seal_bool, seal_int, cond_true, cond_false, Bool.false_eq_true, reduceCtorEq, decide_eq_true_eq, and_self, and_true, true_and, AV.known, AV.cells, cut, List.length_cons, List.length_nil, List.length_map, List.drop_zero, List.drop_succ_cons, List.getElem?_cons_zero, List.getElem?_cons_succ, List.getElem?_append_right, List.getElem?_map, Nat.zero_add, Nat.add_zero, Nat.reduceAdd, Nat.reduceLeDiff, Nat.le_refl, List.nil_append, List.length_append, Int.toNat_natCast, Int.natCast_nonneg, Bool.not_true, Bool.not_false, beq_iff_eq, List.take_succ_cons, List.take_zero, Nat.reduceSub, Nat.sub_self, Nat.reduceMul, Nat.mul_one, evL, ne_eq, not_false_eq_true, get_last, set_last, okE, AV.bd, AV.bdL, Bool.and_self, Bool.and_true, Bool.true_and, List.all_cons, List.all_nil, AV.one, lay, List.set_cons_zero, List.append_nil, beq_self_eq_true, List.drop_nil, evP, fillA, Bool.false_xor, Bool.true_xor, Option.map_none, List.cons_append, hdOk, List.set_cons_succ]
      refine ih _ t' (u ++ [n.id]) (hM2 _) (by simpa [ints] using hacc) (by simp; omega) hx
    | false =>
      have hf : u ++ underF l id (n :: l.drop (i + 1)) = u ++ underF l id (l.drop (i + 1)) := by simp [underF, hc]
      rw [hf] at hx
      simp only [f24L0b, hM, hM2, hnds, hlt', hw1, h47, hc, len_nd, ↓cut_nd, all_nd, bdL_nd, ↓lay_nd, nd_0, nd_1, nd_2, List.getElem?_drop, List.length_drop, W_start, ↓WS_seq, ↓WS_reg, ↓WS_cond, ↓WS_ret, ↓WS_skip, ↓WS_exit, ↓WS_block, ↓WS_loop, ↓WE_nil, ↓WE_sq_n, ↓WE_sq_r, ↓WE_sq_x, ↓WE_bk_n, ↓WE_bk_r, ↓WE_bk_x, ↓WE_lp_n, ↓WE_lp_r, ↓WE_lp_x, ↓WR_nil, ↓WR_cons, ↓WR_guard, WV_some, WT_bool, WT_int, WT_str, WT_nil, WT_ptr, WT_adr, WT_sl, WT_agg, WT_tup, WT_fn, WT_bsl, WT_und, WT_any, WC_bool, WG_bool, WG_und, SOp.ev, X.ev, updO_some, updO_none, ↓upd_same, ↓upd_ne, ↓reduceIte, pick, argEnv_cons, argEnv_nil, bot_at, endQ, resL, resA, oneOrTup, abin, ibin, Nat.reduceEqDiff, if_true, if_false, Option.map_some, seal_bool, seal_int, cond_true, cond_false, Bool.false_eq_true, reduceCtorEq, decide_eq_true_eq, and_self, and_true, true_and, AV.known, AV.cells, cut, List.length_cons, List.length_nil, List.length_map, List.drop_zero, List.drop_succ_cons, List.getElem?_cons_zero, List.getElem?_cons_succ, List.getElem?_append_right, List.getElem?_map, Nat.zero_add, Nat.add_zero, Nat.reduceAdd, Nat.reduceLeDiff, Nat.le_refl, List.nil_append, List.length_append, Int.toNat_natCast, Int.natCast_nonneg, Bool.not_true, Bool.not_false, beq_iff_eq, List.take_succ_cons, List.take_zero, Nat.reduceSub, Nat.sub_self, Nat.reduceMul, Nat.mul_one, evL, ne_eq, not_false_eq_true, get_last, set_last, okE, AV.bd, AV.bdL, Bool.and_self, Bool.and_true, Bool.true_and, List.all_cons, List.all_nil, AV.one, lay, List.set_cons_zero, List.append_nil, beq_self_eq_true, List.drop_nil, evP, fillA, Bool.false_xor, Bool.true_xor, Option.map_none, List.cons_append, hdOk, List.set_cons_succ]
      exact ih _ t u (hM2 _) ht (by omega) hx

theorem own_ex {f : FuncId} {s : SFun} {ar : List AV} {P : AV → List (Nat × Nat) → Prop} (h1 : T.ext f = none) (h2 : T.fn f = some s) (h3 : s.mode = .own) (hn : ar.length ≤ s.nt)
    (h : W T s.body (argEnv 0 ar) ⟨[], []⟩ (endQ s fun v M' => ∃ r ts, sealR v M' = some (r, ts) ∧ P r ts)) :
    ∃ r ts, P r ts ∧ ∀ (fl : Bool) (M : Mem) (args : List AV), snapL M args = some ar → Cl T fl f args M = some (r.shift M.toks.length, ⟨M.boxes, M.toks ++ ts⟩) := by
  obtain ⟨v, M', hr, r, ts, hq, hP⟩ := runF_W hn h
  refine ⟨r, ts, hP, fun fl M args hs => ?_⟩
  unfold Cl clD
  simp only [h1, h2, h3, hs]
  unfold runOwn
  rw [hr]
  simp only [hq]
theorem seal_sl {M : Mem} {t : Tok} {xs : List AV} (h : own (.sl t xs) = true) : sealR (.sl t xs) M = some (.sl t xs, M.toks) := by
  unfold sealR
  simp only [sealN, h, List.map_nil, List.append_nil]
  exact if_pos ⟨trivial, rfl⟩
theorem ownL_ints : ∀ l : List Int, ownL (ints l) = true
  | [] => rfl
  | x :: r => by simp only [ints, List.map_cons, ownL, own, Bool.true_and]; exact ownL_ints r
theorem own_ints {t : Tok} {l : List Int} (h : l = [] ∨ ∃ j, t = .ow j) : own (.sl t (ints l)) = true := by
  rcases h with rfl | ⟨j, rfl⟩
  · cases t <;> rfl
  · simp only [own, ownL_ints]
theorem shift_ints (k : Nat) (t : Tok) (l : List Int) : ∃ t', AV.shift k (.sl t (ints l)) = .sl t' (ints l) := by
  have h : shiftL k (ints l) = ints l := by
    rw [shiftL_eq]; simp [ints, AV.shift]
  cases t with
  | sh => exact ⟨.sh, by rw [AV.shift, h]⟩
  | nl => exact ⟨.nl, by rw [AV.shift, h]⟩
  | ow i => exact ⟨.ow (i + k), by rw [AV.shift, h]⟩

theorem cl24 (l : List Nd) (id : Int) (hl : l.length ≤ 1048576) (fl : Bool) (M : Mem) (a : AV) (hs : snapN 6 M a = some (scE l)) :
    ∃ t tk, Cl T fl 24 [a, i64 id] M = some (.sl t (ints (underL l id)), ⟨M.boxes, M.toks ++ tk⟩) := by
  obtain ⟨r, ts, ⟨t, rfl⟩, h⟩ := own_ex (f := 24) (s := f24S) (ar := [scE l, i64 id]) (P := fun r _ => ∃ t, r = .sl t (ints (underL l id))) T_e24 T_f24 rfl (Nat.le_of_ble_eq_true rfl) (by
    have h23 := fun fl M id => cl23 fl M l id (by omega)
    have hlen : (nds l).length = l.length := by simp [nds]
    by_cases hp : posI id l < 0
    · have hu : underL l id = [] := by simp only [underL, hp, if_true]
      simp only [f24S, f24B, scE, h23, hp, hu, W_start, ↓WS_seq, ↓WS_reg, ↓WS_cond, ↓WS_ret, ↓WS_skip, ↓WS_exit, ↓WS_block, ↓WS_loop, ↓WE_nil, ↓WE_sq_n, ↓WE_sq_r, ↓WE_sq_x, ↓WE_bk_n, ↓WE_bk_r, ↓WE_bk_x, ↓WE_lp_n, ↓WE_lp_r, ↓WE_lp_x, ↓WR_nil, ↓WR_cons, ↓WR_guard, WV_some, WT_bool, WT_int, WT_str, WT_nil, WT_ptr, WT_adr, WT_sl, WT_agg, WT_tup, WT_fn, WT_bsl, WT_und, WT_any, WC_bool, WG_bool, WG_und, SOp.ev, X.ev, updO_some, updO_none, ↓upd_same, ↓upd_ne, ↓reduceIte, pick, argEnv_cons, argEnv_nil, bot_at, endQ, resL, resA, oneOrTup, abin, ibin, Nat.reduceEqDiff, if_true, if_false, Option.map_some, seal_bool, seal_int, cond_true, cond_false, Bool.false_eq_true, reduceCtorEq, decide_eq_true_eq, and_self, and_true, true_and, AV.known, AV.cells, cut, List.length_cons, List.length_nil, List.length_map, List.drop_zero, List.drop_succ_cons, List.getElem?_cons_zero, List.getElem?_cons_succ, List.getElem?_append_right, List.getElem?_map, Nat.zero_add, Nat.add_zero, Nat.reduceAdd, Nat.reduceLeDiff, Nat.le_refl, List.nil_append, List.length_append, Int.toNat_natCast, Int.natCast_nonneg, Bool.not_true, Bool.not_false, beq_iff_eq, List.take_succ_cons, List.take_zero, Nat.reduceSub, Nat.sub_self, Nat.reduceMul, Nat.mul_one, evL, ne_eq, not_false_eq_true, get_last, set_last, okE, AV.bd, AV.bdL, Bool.and_self, Bool.and_true, Bool.true_and, List.all_cons, List.all_nil, AV.one, lay, List.set_cons_zero, List.append_nil, beq_self_eq_true, List.drop_nil, evP, fillA, Bool.false_xor, Bool.true_xor, Option.map_none, List.cons_append, hdOk, List.set_cons_succ]
      exact ⟨_, _, seal_sl rfl, _, rfl⟩
    · have hu : underL l id = underF l id l := by simp only [underL, hp, if_false]
      simp only [f24S, f24B, scE, h23, hp, hu, hlen, W_start, ↓WS_seq, ↓WS_reg, ↓WS_cond, ↓WS_ret, ↓WS_skip, ↓WS_exit, ↓WS_block, ↓WS_loop, ↓WE_nil, ↓WE_sq_n, ↓WE_sq_r, ↓WE_sq_x, ↓WE_bk_n, ↓WE_bk_r, ↓WE_bk_x, ↓WE_lp_n, ↓WE_lp_r, ↓WE_lp_x, ↓WR_nil, ↓WR_cons, ↓WR_guard, WV_some, WT_bool, WT_int, WT_str, WT_nil, WT_ptr, WT_adr, WT_sl, WT_agg, WT_tup, WT_fn, WT_bsl, WT_und, WT_any, WC_bool, WG_bool, WG_und, SOp.ev, X.ev, updO_some, updO_none, ↓upd_same, ↓upd_ne, ↓reduceIte, pick, argEnv_cons, argEnv_nil, bot_at, endQ, resL, resA, oneOrTup, abin, ibin, Nat.reduceEqDiff, if_true, if_false, Option.map_some, seal_bool, seal_int, cond_true, cond_false, Bool.false_eq_true, reduceCtorEq, decide_eq_true_eq, and_self, and_true, true_and, AV.known, AV.cells, cut, List.length_cons, List.length_nil, List.length_map, List.drop_zero, List.drop_succ_cons, List.getElem?_cons_zero, List.getElem?_cons_succ, List.getElem?_append_right, List.getElem?_map, Nat.zero_add, Nat.add_zero, Nat.reduceAdd, Nat.reduceLeDiff, Nat.le_refl, List.nil_append, List.length_append, Int.toNat_natCast, Int.natCast_nonneg, Bool.not_true, Bool.not_false, beq_iff_eq, List.take_succ_cons, List.take_zero, Nat.reduceSub, Nat.sub_self, Nat.reduceMul, Nat.mul_one, evL, ne_eq, not_false_eq_true, get_last, set_last, okE, AV.bd, AV.bdL, Bool.and_self, Bool.and_true, Bool.true_and, List.all_cons, List.all_nil, AV.one, lay, List.set_cons_zero, List.append_nil, beq_self_eq_true, List.drop_nil, evP, fillA, Bool.false_xor, Bool.true_xor, Option.map_none, List.cons_append, hdOk, List.set_cons_succ]
      refine lp24 l id hl _ _ 0 (Nat.zero_le _) _ .nl [] rfl (Or.inl ⟨rfl, rfl⟩) (Nat.zero_le _) (fun e M t' he ht => ?_)
      simp only [List.nil_append, List.drop_zero] at he ht
      simp only [he, W_start, ↓WS_seq, ↓WS_reg, ↓WS_cond, ↓WS_ret, ↓WS_skip, ↓WS_exit, ↓WS_block, ↓WS_loop, ↓WE_nil, ↓WE_sq_n, ↓WE_sq_r, ↓WE_sq_x, ↓WE_bk_n, ↓WE_bk_r, ↓WE_bk_x, ↓WE_lp_n, ↓WE_lp_r, ↓WE_lp_x, ↓WR_nil, ↓WR_cons, ↓WR_guard, WV_some, WT_bool, WT_int, WT_str, WT_nil, WT_ptr, WT_adr, WT_sl, WT_agg, WT_tup, WT_fn, WT_bsl, WT_und, WT_any, WC_bool, WG_bool, WG_und, SOp.ev, X.ev, updO_some, updO_none, ↓upd_same, ↓upd_ne, ↓reduceIte, pick, argEnv_cons, argEnv_nil, bot_at, endQ, resL, resA, oneOrTup, abin, ibin, Nat.reduceEqDiff, if_true, if_false, Option.map_some, seal_bool, seal_int, cond_true, cond_false, Bool.false_eq_true, reduceCtorEq, decide_eq_true_eq, and_self, and_true, true_and, AV.known, AV.cells, cut, List.length_cons, List.length_nil, List.length_map, List.drop_zero, List.drop_succ_cons, List.getElem?_cons_zero, List.getElem?_cons_succ, List.getElem?_append_right, List.getElem?_map, Nat.zero_add, Nat.add_zero, Nat.reduceAdd, Nat.reduceLeDiff, Nat.le_refl, List.nil_append, List.length_append, Int.toNat_natCast, Int.natCast_nonneg, Bool.not_true, Bool.not_false, beq_iff_eq, List.take_succ_cons, List.take_zero, Nat.reduceSub, Nat.sub_self, Nat.reduceMul, Nat.mul_one, evL, ne_eq, not_false_eq_true, get_last, set_last, okE, AV.bd, AV.bdL, Bool.and_self, Bool.and_true, Bool.true_and, List.all_cons, List.all_nil, AV.one, lay, List.set_cons_zero, List.append_nil, beq_self_eq_true, List.drop_nil, evP, fillA, Bool.false_xor, Bool.true_xor, Option.map_none, List.cons_append, hdOk, List.set_cons_succ]
      exact ⟨_, _, seal_sl (own_ints (ht.imp (·.2) fun h => h)), _, rfl⟩)
  obtain ⟨t', ht⟩ := shift_ints M.toks.length t (underL l id)
  exact ⟨t', ts, by rw [h fl M [a, i64 id] (by simp only [snapL, mapO, hs, snap_i]), ht]⟩
end Go.Proofs.Ytnehpfaafgnnpaa
