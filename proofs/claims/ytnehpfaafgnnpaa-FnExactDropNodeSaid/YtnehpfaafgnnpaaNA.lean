/- The reference: l15Copy, DropNode. DeleteFunc. -/
import Derived.Test.YtnehpfaafgnnpaaMZ
set_option linter.unusedSimpArgs false
set_option linter.unusedVariables false
set_option linter.unnecessarySimpa false
namespace Go.Proofs.Ytnehpfaafgnnpaa
open Go.AM Go.AM.AV

theorem lp16 (l : List Nd) (hl : l.length ≤ 1048576) (hs : ∀ n ∈ l, smN n) (st : List Fr) (Q : Ex → Env → Mem → Prop) :
    ∀ i, i ≤ l.length → ∀ (B : List (List AV)) (tk : List (Nat × Nat)) (t : Tok) (ns : List AV) (ts : List Nat), B[0]? = some [.sl .sh (nds l)] → B[2]? = some [.sl t ns] → B[1]? = some [.sl .nl []] → accN t ns (l.take i) ts tk →
      (∀ (e : Env) (B : List (List AV)) (tk : List (Nat × Nat)) (t : Tok) (ns : List AV) (ts : List Nat), e 2 = .ptr 1 0 → e 3 = .ptr 2 0 → B[2]? = some [.sl t ns] → B[1]? = some [.sl .nl []] → accN t ns l ts tk → WE T (.exit 0) st e ⟨B, tk⟩ Q) →
      WL T [1, 2, 3, 4] f16L0 st (upd (upd (upd (upd bot 4 (i64 i)) 3 (.ptr 2 0)) 2 (.ptr 1 0)) 1 (.ptr 0 0)) ⟨B, tk⟩ Q := by
  have hlen : (nds l).length = l.length := by simp [nds]
  refine upto _ ?_ fun i hi ih B tk t ns ts hB0 hB2 hB1 ha hx => ?_
  · intro B tk t ns ts hB0 hB2 hB1 ha hx
    rw [List.take_length] at ha
    rw [WL_go (a := f16L0) (b := f16L0b) rfl]
    simp only [f16L0b, hB0, hlen, Int.lt_irrefl, W_start, ↓WS_seq, ↓WS_reg, ↓WS_cond, ↓WS_ret, ↓WS_skip, ↓WS_exit, ↓WS_block, ↓WS_loop, ↓WE_nil, ↓WE_sq_n, ↓WE_sq_r, ↓WE_sq_x, ↓WE_bk_n, ↓WE_bk_r, ↓WE_bk_x, ↓WE_lp_n, ↓WE_lp_r, ↓WE_lp_x, ↓WR_nil, ↓WR_cons, ↓WR_guard, WV_some, WT_bool, WT_int, WT_str, WT_nil, WT_ptr, WT_adr, WT_sl, WT_agg, WT_tup, WT_fn, WT_bsl, WT_und, WT_any, WC_bool, WG_bool, WG_und, SOp.ev, X.ev, updO_some, updO_none, ↓upd_same, ↓upd_ne, ↓reduceIte, pick, argEnv_cons, argEnv_nil, bot_at, endQ, resL, resA, oneOrTup, abin, ibin, Nat.reduceEqDiff, if_true, if_false, Option.map_some, seal_bool, seal_int, cond_true, cond_false, Bool.false_eq_true, reduceCtorEq, decide_eq_true_eq, and_self, and_true, true_and, AV.known, AV.cells, cut, List.length_cons, List.length_nil, List.length_map, List.drop_zero, List.drop_succ_cons, List.getElem?_cons_zero, List.getElem?_cons_succ, List.getElem?_append_right, List.getElem?_map, Nat.zero_add, Nat.add_zero, Nat.reduceAdd, Nat.reduceLeDiff, Nat.le_refl, List.nil_append, List.length_append, Int.toNat_natCast, Int.natCast_nonneg, Bool.not_true, Bool.not_false, beq_iff_eq, List.take_succ_cons, List.take_zero, Nat.reduceSub, Nat.sub_self, Nat.reduceMul, Nat.mul_one, evL, ne_eq, not_false_eq_true, get_last, set_last, okE, AV.bd, AV.bdL, Bool.and_self, Bool.and_true, Bool.true_and, List.all_cons, List.all_nil, AV.one, lay, List.set_cons_zero, List.append_nil, beq_self_eq_true, List.drop_nil, evP, fillA, Bool.false_xor, Bool.true_xor, Option.map_none, List.cons_append, hdOk, List.set_cons_succ]
    exact hx _ B tk t ns ts rfl rfl hB2 hB1 ha
  · have hnds : (nds l)[i]? = some (.agg (ndC l[i])) := by simp only [nds, List.getElem?_map, List.getElem?_eq_getElem hi, Option.map_some, ndE]
    have hlt' : (i : Int) < l.length := by omega
    have hw1 : IntKind.i64.wrap ((i : Int) + 1) = i + 1 := wrap_ok (by omega)
    have hb2 : 2 < B.length := (List.getElem?_eq_some_iff.1 hB2).1
    obtain ⟨x, tk1, t1, hn1, g1, h19⟩ := own19 l[i] (hs _ (List.getElem_mem hi)) tk
    obtain ⟨t', tk', happ, hacc⟩ := accN_step ha hn1 g1 (by rw [List.length_take]; omega)
    have hself : ∀ Y, (B.set 2 Y)[2]? = some Y := fun Y => List.getElem?_set_self hb2
    have hB1' : ∀ Y, (B.set 2 Y)[1]? = some [.sl .nl []] := fun Y => by
      rw [List.getElem?_set_ne (by omega)]; exact hB1
    have hB0' : ∀ Y, (B.set 2 Y)[0]? = some [.sl .sh (nds l)] := fun Y => by
      rw [List.getElem?_set_ne (by omega)]; exact hB0
    rw [take_snoc hi] at ih
    have hbd := bdL_ndsO hacc.1
    obtain ⟨v, p, d, cv, cp, t1', t2, t3, t4, t5, rfl, ⟨k1, rfl, o1⟩, ⟨k2, rfl, o2⟩, ⟨k3, rfl, o3⟩, ⟨k4, rfl, o4⟩, ⟨k5, rfl, o5⟩, ho⟩ := hn1
    have h19' := fun fl B => h19 fl B (.agg (ndC l[i])) (snap_nd' _ _)
    have hal := all_W l[i] k1 k2 k3 k4 k5 (ints l[i].path.verbs) (pts l[i].path.points) (ints l[i].dashes) (ints l[i].clip.verbs) (pts l[i].clip.points)
    have hwl : (ndW l[i] (.sl k1 (ints l[i].path.verbs)) (.sl k2 (pts l[i].path.points)) (.sl k3 (ints l[i].dashes)) (.sl k4 (ints l[i].clip.verbs)) (.sl k5 (pts l[i].clip.points))).length = 31 := rfl
    generalize ndW l[i] (.sl k1 (ints l[i].path.verbs)) (.sl k2 (pts l[i].path.points)) (.sl k3 (ints l[i].dashes)) (.sl k4 (ints l[i].clip.verbs)) (.sl k5 (pts l[i].clip.points)) = W at *
    generalize ns ++ [.agg W] = ns' at *
    rw [WL_go (a := f16L0) (b := f16L0b) rfl]
    simp only [f16L0b, hnds, hlen, hlt', hw1, hB0, hB2, h19', happ, hbd, hal, hwl, len_nd, ↓cut_nd, all_nd, bdL_nd, ↓lay_nd, nd_0, nd_1, nd_2, List.getElem?_drop, List.length_drop, bdL_ints, bdL_pts, W_start, ↓WS_seq, ↓WS_reg, ↓WS_cond, ↓WS_ret, ↓WS_skip, ↓WS_exit, ↓WS_block, ↓WS_loop, ↓WE_nil, ↓WE_sq_n, ↓WE_sq_r, ↓WE_sq_x, ↓WE_bk_n, ↓WE_bk_r, ↓WE_bk_x, ↓WE_lp_n, ↓WE_lp_r, ↓WE_lp_x, ↓WR_nil, ↓WR_cons, ↓WR_guard, WV_some, WT_bool, WT_int, WT_str, WT_nil, WT_ptr, WT_adr, WT_sl, WT_agg, WT_tup, WT_fn, WT_bsl, WT_und, WT_any, WC_bool, WG_bool, WG_und, SOp.ev, X.ev, updO_some, updO_none, ↓upd_same, ↓upd_ne, ↓reduceIte, pick, argEnv_cons, argEnv_nil, bot_at, endQ, resL, resA, oneOrTup, abin, ibin, Nat.reduceEqDiff, if_true, if_false, Option.map_some, seal_bool, seal_int, cond_true, cond_false, Bool.false_eq_true, reduceCtorEq, decide_eq_true_eq, and_self, and_true, true_and, AV.known, AV.cells, cut, List.length_cons, List.length_nil, List.length_map, List.drop_zero, List.drop_succ_cons, List.getElem?_cons_zero, List.getElem?_cons_succ, List.getElem?_append_right, List.getElem?_map, Nat.zero_add, Nat.add_zero, Nat.reduceAdd, Nat.reduceLeDiff, Nat.le_refl, List.nil_append, List.length_append, Int.toNat_natCast, Int.natCast_nonneg, Bool.not_true, Bool.not_false, beq_iff_eq, List.take_succ_cons, List.take_zero, Nat.reduceSub, Nat.sub_self, Nat.reduceMul, Nat.mul_one, evL, ne_eq, not_false_eq_true, get_last, set_last, okE, AV.bd, AV.bdL, Bool.and_self, Bool.and_true, Bool.true_and, List.all_cons, List.all_nil, AV.one, lay, List.set_cons_zero, List.append_nil, beq_self_eq_true, List.drop_nil, evP, fillA, Bool.false_xor, Bool.true_xor, Option.map_none, List.cons_append, hdOk, List.set_cons_succ]
    exact ih _ tk' t' ns' _ (hB0' _) (hself _) (hB1' _) hacc hx

theorem own16 (l : List Nd) (hl : l.length ≤ 1048576) (hs : ∀ n ∈ l, smN n) : ∀ tk0 : List (Nat × Nat),
    ∃ v tk ts, scO v l ts ∧ good ts tk0.length (tk0 ++ tk).length ∧ ∀ (fl : Bool) (B : List (List AV)) (a : AV), snapN 6 ⟨B, tk0⟩ a = some (scE l) → Cl T fl 16 [a] ⟨B, tk0⟩ = some (v, ⟨B, tk0 ++ tk⟩) := by
  refine own_g (s := f16S) T_e16 T_f16 rfl (Nat.le_of_ble_eq_true rfl) (fun r ts k h => scO_shift k h) ?_
  simp only [f16S, f16B, scE, W_start, ↓WS_seq, ↓WS_reg, ↓WS_cond, ↓WS_ret, ↓WS_skip, ↓WS_exit, ↓WS_block, ↓WS_loop, ↓WE_nil, ↓WE_sq_n, ↓WE_sq_r, ↓WE_sq_x, ↓WE_bk_n, ↓WE_bk_r, ↓WE_bk_x, ↓WE_lp_n, ↓WE_lp_r, ↓WE_lp_x, ↓WR_nil, ↓WR_cons, ↓WR_guard, WV_some, WT_bool, WT_int, WT_str, WT_nil, WT_ptr, WT_adr, WT_sl, WT_agg, WT_tup, WT_fn, WT_bsl, WT_und, WT_any, WC_bool, WG_bool, WG_und, SOp.ev, X.ev, updO_some, updO_none, ↓upd_same, ↓upd_ne, ↓reduceIte, pick, argEnv_cons, argEnv_nil, bot_at, endQ, resL, resA, oneOrTup, abin, ibin, Nat.reduceEqDiff, if_true, if_false, Option.map_some, seal_bool, seal_int, cond_true, cond_false, Bool.false_eq_true, reduceCtorEq, decide_eq_true_eq, and_self, and_true, true_and, AV.known, AV.cells, cut, List.length_cons, List.length_nil, List.length_map, List.drop_zero, List.drop_succ_cons, List.getElem?_cons_zero, List.getElem?_cons_succ, List.getElem?_append_right, List.getElem?_map, Nat.zero_add, Nat.add_zero, Nat.reduceAdd, Nat.reduceLeDiff, Nat.le_refl, List.nil_append, List.length_append, Int.toNat_natCast, Int.natCast_nonneg, Bool.not_true, Bool.not_false, beq_iff_eq, List.take_succ_cons, List.take_zero, Nat.reduceSub, Nat.sub_self, Nat.reduceMul, Nat.mul_one, evL, ne_eq, not_false_eq_true, get_last, set_last, okE, AV.bd, AV.bdL, Bool.and_self, Bool.and_true, Bool.true_and, List.all_cons, List.all_nil, AV.one, lay, List.set_cons_zero, List.append_nil, beq_self_eq_true, List.drop_nil, evP, fillA, Bool.false_xor, Bool.true_xor, Option.map_none, List.cons_append, hdOk, List.set_cons_succ]
  refine lp16 l hl hs _ _ 0 (Nat.zero_le _) _ [] .nl [] [] rfl rfl rfl (accN_nil _) (fun e B tk t ns ts he2 he3 hB2 hB1 ha => ?_)
  have hb1 : 1 < B.length := (List.getElem?_eq_some_iff.1 hB1).1
  have hself : ∀ Y, (B.set 1 Y)[1]? = some Y := fun Y => List.getElem?_set_self hb1
  obtain ⟨ts', hr, hn⟩ := accN_sc ha
  have hbd := bdL_ndsO ha.1
  simp only [he2, he3, hB2, hB1, hself, hbd, len_nd, ↓cut_nd, all_nd, bdL_nd, ↓lay_nd, nd_0, nd_1, nd_2, List.getElem?_drop, List.length_drop, bdL_ints, bdL_pts, W_start, ↓WS_seq, ↓WS_reg, ↓WS_cond, ↓WS_ret, ↓WS_skip, ↓WS_exit, ↓WS_block, ↓WS_loop, ↓WE_nil, ↓WE_sq_n, ↓WE_sq_r, ↓WE_sq_x, ↓WE_bk_n, ↓WE_bk_r, ↓WE_bk_x, ↓WE_lp_n, ↓WE_lp_r, ↓WE_lp_x, ↓WR_nil, ↓WR_cons, ↓WR_guard, WV_some, WT_bool, WT_int, WT_str, WT_nil, WT_ptr, WT_adr, WT_sl, WT_agg, WT_tup, WT_fn, WT_bsl, WT_und, WT_any, WC_bool, WG_bool, WG_und, SOp.ev, X.ev, updO_some, updO_none, ↓upd_same, ↓upd_ne, ↓reduceIte, pick, argEnv_cons, argEnv_nil, bot_at, endQ, resL, resA, oneOrTup, abin, ibin, Nat.reduceEqDiff, if_true, if_false, Option.map_some, seal_bool, seal_int, cond_true, cond_false, Bool.false_eq_true, reduceCtorEq, decide_eq_true_eq, and_self, and_true, true_and, AV.known, AV.cells, cut, List.length_cons, List.length_nil, List.length_map, List.drop_zero, List.drop_succ_cons, List.getElem?_cons_zero, List.getElem?_cons_succ, List.getElem?_append_right, List.getElem?_map, Nat.zero_add, Nat.add_zero, Nat.reduceAdd, Nat.reduceLeDiff, Nat.le_refl, List.nil_append, List.length_append, Int.toNat_natCast, Int.natCast_nonneg, Bool.not_true, Bool.not_false, beq_iff_eq, List.take_succ_cons, List.take_zero, Nat.reduceSub, Nat.sub_self, Nat.reduceMul, Nat.mul_one, evL, ne_eq, not_false_eq_true, get_last, set_last, okE, AV.bd, AV.bdL, Bool.and_self, Bool.and_true, Bool.true_and, List.all_cons, List.all_nil, AV.one, lay, List.set_cons_zero, List.append_nil, beq_self_eq_true, List.drop_nil, evP, fillA, Bool.false_xor, Bool.true_xor, Option.map_none, List.cons_append, hdOk, List.set_cons_succ]
  exact ⟨_, _, scO_seal hr _, _, hr, hn⟩

/-! ### spec.DropNode -/
/-- What dropping a node gives. -/
noncomputable def dropS (l : List Nd) (id : Int) : List Nd × Int := if sceneOk l then (if posI id l < 0 then (l, 2) else (l.filter (fun n => !underS l n.id id), 0)) else (l, 1)

theorem lp6 (l : List Nd) (id : Int) (hl : l.length ≤ 1048576) (hs : ∀ n ∈ l, smN n) (st : List Fr) (Q : Ex → Env → Mem → Prop) :
    ∀ i, i ≤ l.length → ∀ (B : List (List AV)) (tk : List (Nat × Nat)) (t : Tok) (ns : List AV) (ts : List Nat), B[0]? = some [.sl .sh (nds l)] → B[2]? = some [.sl t ns] → B[1]? = some [.sl .nl []] → accN t ns ((l.take i).filter (fun n => !underS l n.id id)) ts tk →
      (∀ (e : Env) (B : List (List AV)) (tk : List (Nat × Nat)) (t : Tok) (ns : List AV) (ts : List Nat), e 4 = .ptr 1 0 → e 6 = .ptr 2 0 → B[2]? = some [.sl t ns] → B[1]? = some [.sl .nl []] → accN t ns (l.filter (fun n => !underS l n.id id)) ts tk → WE T (.exit 0) st e ⟨B, tk⟩ Q) →
      WL T [1, 2, 4, 6, 7] f6L0 st (upd (upd (upd (upd (upd bot 7 (i64 i)) 6 (.ptr 2 0)) 4 (.ptr 1 0)) 2 (.ptr 0 0)) 1 (i64 id)) ⟨B, tk⟩ Q := by
  have hlen : (nds l).length = l.length := by simp [nds]
  have h18 := fun fl M a => cl18 fl M l a id (by omega)
  refine upto _ ?_ fun i hi ih B tk t ns ts hB0 hB2 hB1 ha hx => ?_
  · intro B tk t ns ts hB0 hB2 hB1 ha hx
    rw [List.take_length] at ha
    rw [WL_go (a := f6L0) (b := f6L0b) rfl]
    simp only [f6L0b, hB0, hlen, Int.lt_irrefl, W_start, ↓WS_seq, ↓WS_reg, ↓WS_cond, ↓WS_ret, ↓WS_skip, ↓WS_exit, ↓WS_block, ↓WS_loop, ↓WE_nil, ↓WE_sq_n, ↓WE_sq_r, ↓WE_sq_x, ↓WE_bk_n, ↓WE_bk_r, ↓WE_bk_x, ↓WE_lp_n, ↓WE_lp_r, ↓WE_lp_x, ↓WR_nil, ↓WR_cons, ↓WR_guard, WV_some, WT_bool, WT_int, WT_str, WT_nil, WT_ptr, WT_adr, WT_sl, WT_agg, WT_tup, WT_fn, WT_bsl, WT_und, WT_any, WC_bool, WG_bool, WG_und, SOp.ev, X.ev, updO_some, updO_none, ↓upd_same, ↓upd_ne, ↓reduceIte, pick, argEnv_cons, argEnv_nil, bot_at, endQ, resL, resA, oneOrTup, abin, ibin, Nat.reduceEqDiff, if_true, if_false, Option.map_some, seal_bool, seal_int, cond_true, cond_false, Bool.false_eq_true, reduceCtorEq, decide_eq_true_eq, and_self, and_true, true_and, AV.known, AV.cells, cut, List.length_cons, List.length_nil, List.length_map, List.drop_zero, List.drop_succ_cons, List.getElem?_cons_zero, List.getElem?_cons_succ, List.getElem?_append_right, List.getElem?_map, Nat.zero_add, Nat.add_zero, Nat.reduceAdd, Nat.reduceLeDiff, Nat.le_refl, List.nil_append, List.length_append, Int.toNat_natCast, Int.natCast_nonneg, Bool.not_true, Bool.not_false, beq_iff_eq, List.take_succ_cons, List.take_zero, Nat.reduceSub, Nat.sub_self, Nat.reduceMul, Nat.mul_one, evL, ne_eq, not_false_eq_true, get_last, set_last, okE, AV.bd, AV.bdL, Bool.and_self, Bool.and_true, Bool.true_and, List.all_cons, List.all_nil, AV.one, lay, List.set_cons_zero, List.append_nil, beq_self_eq_true, List.drop_nil, evP, fillA, Bool.false_xor, Bool.true_xor, Option.map_none, List.cons_append, hdOk, List.set_cons_succ]
    exact hx _ B tk t ns ts rfl rfl hB2 hB1 ha
  · have hnds : (nds l)[i]? = some (.agg (ndC l[i])) := by simp only [nds, List.getElem?_map, List.getElem?_eq_getElem hi, Option.map_some, ndE]
    have hlt' : (i : Int) < l.length := by omega
    have hw1 : IntKind.i64.wrap ((i : Int) + 1) = i + 1 := wrap_ok (by omega)
    have hb2 : 2 < B.length := (List.getElem?_eq_some_iff.1 hB2).1
    rw [take_snoc hi, List.filter_append] at ih
    cases hu : underS l l[i].id id with
    | true =>
      have hf : [l[i]].filter (fun n => !underS l n.id id) = [] := by simp [hu]
      rw [hf, List.append_nil] at ih
      rw [WL_go (a := f6L0) (b := f6L0b) rfl]
      simp only [f6L0b, hnds, hlen, hlt', hw1, hB0, hB2, h18, hu, len_nd, ↓cut_nd, all_nd, bdL_nd, ↓lay_nd, nd_0, nd_1, nd_2, List.getElem?_drop, List.length_drop, bdL_ints, bdL_pts, W_start, ↓WS_seq, ↓WS_reg, ↓WS_cond, ↓WS_ret, ↓WS_skip, ↓WS_exit, ↓WS_block, ↓WS_loop, ↓WE_nil, ↓WE_sq_n, ↓WE_sq_r, ↓WE_sq_x, ↓WE_bk_n, ↓WE_bk_r, ↓WE_bk_x, ↓WE_lp_n, ↓WE_lp_r, ↓WE_lp_x, ↓WR_nil, ↓WR_cons, ↓WR_guard, WV_some, WT_bool, WT_int, WT_str, WT_nil, WT_ptr, WT_adr, WT_sl, WT_agg, WT_tup, WT_fn, WT_bsl, WT_und, WT_any, WC_bool, WG_bool, WG_und, SOp.ev, X.ev, updO_some, updO_none, ↓upd_same, ↓upd_ne, ↓reduceIte, pick, argEnv_cons, argEnv_nil, bot_at, endQ, resL, resA, oneOrTup, abin, ibin, Nat.reduceEqDiff, if_true, if_false, Option.map_some, seal_bool, seal_int, cond_true, cond_false, Bool.false_eq_true, reduceCtorEq, decide_eq_true_eq, and_self, and_true, true_and, AV.known, AV.cells, cut, List.length_cons, List.length_nil, List.length_map, List.drop_zero, List.drop_succ_cons, List.getElem?_cons_zero, List.getElem?_cons_succ, List.getElem?_append_right, List.getElem?_map, Nat.zero_add, Nat.add_zero, Nat.reduceAdd, Nat.reduceLeDiff, Nat.le_refl, List.nil_append, List.length_append, Int.toNat_natCast, Int.natCast_nonneg, Bool.not_true, Bool.not_false, beq_iff_eq, List.take_succ_cons, List.take_zero, Nat.reduceSub, Nat.sub_self, Nat.reduceMul, Nat.mul_one, evL, ne_eq, not_false_eq_true, get_last, set_last, okE, AV.bd, AV.bdL, Bool.and_self, Bool.and_true, Bool.true_and, List.all_cons, List.all_nil, AV.one, lay, List.set_cons_zero, List.append_nil, beq_self_eq_true, List.drop_nil, evP, fillA, Bool.false_xor, Bool.true_xor, Option.map_none, List.cons_append, hdOk, List.set_cons_succ]
      exact ih B tk t ns ts hB0 hB2 hB1 ha hx
    | false =>
      have hf : [l[i]].filter (fun n => !underS l n.id id) = [l[i]] := by simp [hu]
      rw [hf] at ih
      obtain ⟨x, tk1, t1, hn1, g1, h19⟩ := own19 l[i] (hs _ (List.getElem_mem hi)) tk
      obtain ⟨t', tk', happ, hacc⟩ := accN_step ha hn1 g1 (by
        have := List.length_filter_le (fun n => !underS l n.id id) (l.take i)
        rw [List.length_take] at this; omega)
      have hself : ∀ Y, (B.set 2 Y)[2]? = some Y := fun Y => List.getElem?_set_self hb2
      have hB1' : ∀ Y, (B.set 2 Y)[1]? = some [.sl .nl []] := fun Y => by
        rw [List.getElem?_set_ne (by omega)]; exact hB1
      have hB0' : ∀ Y, (B.set 2 Y)[0]? = some [.sl .sh (nds l)] := fun Y => by
        rw [List.getElem?_set_ne (by omega)]; exact hB0
      have hbd := bdL_ndsO hacc.1
      obtain ⟨v, p, d, cv, cp, t1', t2, t3, t4, t5, rfl, ⟨k1, rfl, o1⟩, ⟨k2, rfl, o2⟩, ⟨k3, rfl, o3⟩, ⟨k4, rfl, o4⟩, ⟨k5, rfl, o5⟩, ho⟩ := hn1
      have h19' := fun fl B => h19 fl B (.agg (ndC l[i])) (snap_nd' _ _)
      have hal := all_W l[i] k1 k2 k3 k4 k5 (ints l[i].path.verbs) (pts l[i].path.points) (ints l[i].dashes) (ints l[i].clip.verbs) (pts l[i].clip.points)
      have hwl : (ndW l[i] (.sl k1 (ints l[i].path.verbs)) (.sl k2 (pts l[i].path.points)) (.sl k3 (ints l[i].dashes)) (.sl k4 (ints l[i].clip.verbs)) (.sl k5 (pts l[i].clip.points))).length = 31 := rfl
      generalize ndW l[i] (.sl k1 (ints l[i].path.verbs)) (.sl k2 (pts l[i].path.points)) (.sl k3 (ints l[i].dashes)) (.sl k4 (ints l[i].clip.verbs)) (.sl k5 (pts l[i].clip.points)) = W at *
      generalize ns ++ [.agg W] = ns' at *
      rw [WL_go (a := f6L0) (b := f6L0b) rfl]
      simp only [f6L0b, hnds, hlen, hlt', hw1, hB0, hB2, h18, hu, h19', happ, hbd, hal, hwl, len_nd, ↓cut_nd, all_nd, bdL_nd, ↓lay_nd, nd_0, nd_1, nd_2, List.getElem?_drop, List.length_drop, bdL_ints, bdL_pts, W_start, ↓WS_seq, ↓WS_reg, ↓WS_cond, ↓WS_ret, ↓WS_skip, ↓WS_exit, ↓WS_block, ↓WS_loop, ↓WE_nil, ↓WE_sq_n, ↓WE_sq_r, ↓WE_sq_x, ↓WE_bk_n, ↓WE_bk_r, ↓WE_bk_x, ↓WE_lp_n, ↓WE_lp_r, ↓WE_lp_x, ↓WR_nil, ↓WR_cons, ↓WR_guard, WV_some, WT_bool, WT_int, WT_str, WT_nil, WT_ptr, WT_adr, WT_sl, WT_agg, WT_tup, WT_fn, WT_bsl, WT_und, WT_any, WC_bool, WG_bool, WG_und, SOp.ev, X.ev, updO_some, updO_none, ↓upd_same, ↓upd_ne, ↓reduceIte, pick, argEnv_cons, argEnv_nil, bot_at, endQ, resL, resA, oneOrTup, abin, ibin, Nat.reduceEqDiff, if_true, if_false, Option.map_some, seal_bool, seal_int, cond_true, cond_false, Bool.false_eq_true, reduceCtorEq, decide_eq_true_eq, and_self, and_true, true_and, AV.known, AV.cells, cut, List.length_cons, List.length_nil, List.length_map, List.drop_zero, List.drop_succ_cons, List.getElem?_cons_zero, List.getElem?_cons_succ, List.getElem?_append_right, List.getElem?_map, Nat.zero_add, Nat.add_zero, Nat.reduceAdd, Nat.reduceLeDiff, Nat.le_refl, List.nil_append, List.length_append, Int.toNat_natCast, Int.natCast_nonneg, Bool.not_true, Bool.not_false, beq_iff_eq, List.take_succ_cons, List.take_zero, Nat.reduceSub, Nat.sub_self, Nat.reduceMul, Nat.mul_one, evL, ne_eq, not_false_eq_true, get_last, set_last, okE, AV.bd, AV.bdL, Bool.and_self, Bool.and_true, Bool.true_and, List.all_cons, List.all_nil, AV.one, lay, List.set_cons_zero, List.append_nil, beq_self_eq_true, List.drop_nil, evP, fillA, Bool.false_xor, Bool.true_xor, Option.map_none, List.cons_append, hdOk, List.set_cons_succ]
      exact ih _ tk' t' ns' _ (hB0' _) (hself _) (hB1' _) hacc hx

def sciO (l : List Nd) (c : Int) (r : AV) : Prop := ∃ s ts, r = .tup [s, i64 c] ∧ scO s l ts
theorem own6 (l : List Nd) (id : Int) (hl : l.length ≤ 1048576) (hs : ∀ n ∈ l, smN n) :
    ∃ s tk, (∃ ts, scO s (dropS l id).1 ts) ∧ ∀ (fl : Bool) (B : List (List AV)) (a : AV), snapN 6 ⟨B, []⟩ a = some (scE l) → Cl T fl 6 [a, i64 id] ⟨B, []⟩ = some (.tup [s, i64 (dropS l id).2], ⟨B, tk⟩) := by
  obtain ⟨r, tk, ⟨s, ts, rfl, hs'⟩, h⟩ := own_ex (f := 6) (s := f6S) (ar := [scE l, i64 id]) (P := fun r _ => sciO (dropS l id).1 (dropS l id).2 r) T_e6 T_f6 rfl (Nat.le_of_ble_eq_true rfl) (by
    have h15 := fun fl M => cl15 fl M l (by omega) (fun n hn => by have := (hs n hn).d; omega)
    have h17 := fun fl M => at17 fl M l id (by omega)
    obtain ⟨_, tk1, ts1, ⟨_, xs, s1, s2, rfl, ⟨tok, rfl, o1⟩, o2, ho⟩, g1, h16⟩ := own16 l hl hs []
    have h16' := fun fl B => h16 fl B (.agg [.sl .sh (nds l)]) (snap_sc _ _ _)
    have hbd := bdL_ndsO o2
    have fin : ∀ {s : AV} {l : List Nd} {ts : List Nat} (c : Int) (B : List (List AV)) (tk : List (Nat × Nat)), scO s l ts → ∃ r tk', sealR (.tup [s, i64 c]) ⟨B, tk⟩ = some (r, tk') ∧ sciO l c r := by
      intro s l ts c B tk h
      have ho := scO_own h
      have h' := h
      obtain ⟨v, xs, t1, t2, rfl, ⟨tok, rfl, -⟩, h2, rfl⟩ := h'
      exact ⟨_, _, sealR_of (acc := []) rfl (by rw [show own (.tup [.agg [.sl tok xs], i64 c]) = (own (.agg [.sl tok xs]) && true) from rfl, ho]; rfl) rfl, _, _, rfl, h⟩
    have hsc : scO (.agg [.sl tok xs]) l ts1 := ⟨_, xs, s1, s2, rfl, ⟨tok, rfl, o1⟩, o2, ho⟩
    simp only [f6S, f6B, scE, h15, h17, h16', hbd, List.nil_append, len_nd, ↓cut_nd, all_nd, bdL_nd, ↓lay_nd, nd_0, nd_1, nd_2, List.getElem?_drop, List.length_drop, bdL_ints, bdL_pts, W_start, ↓WS_seq, ↓WS_reg, ↓WS_cond, ↓WS_ret, ↓WS_skip, ↓WS_exit, ↓WS_block, ↓WS_loop, ↓WE_nil, ↓WE_sq_n, ↓WE_sq_r, ↓WE_sq_x, ↓WE_bk_n, ↓WE_bk_r, ↓WE_bk_x, ↓WE_lp_n, ↓WE_lp_r, ↓WE_lp_x, ↓WR_nil, ↓WR_cons, ↓WR_guard, WV_some, WT_bool, WT_int, WT_str, WT_nil, WT_ptr, WT_adr, WT_sl, WT_agg, WT_tup, WT_fn, WT_bsl, WT_und, WT_any, WC_bool, WG_bool, WG_und, SOp.ev, X.ev, updO_some, updO_none, ↓upd_same, ↓upd_ne, ↓reduceIte, pick, argEnv_cons, argEnv_nil, bot_at, endQ, resL, resA, oneOrTup, abin, ibin, Nat.reduceEqDiff, if_true, if_false, Option.map_some, seal_bool, seal_int, cond_true, cond_false, Bool.false_eq_true, reduceCtorEq, decide_eq_true_eq, and_self, and_true, true_and, AV.known, AV.cells, cut, List.length_cons, List.length_nil, List.length_map, List.drop_zero, List.drop_succ_cons, List.getElem?_cons_zero, List.getElem?_cons_succ, List.getElem?_append_right, List.getElem?_map, Nat.zero_add, Nat.add_zero, Nat.reduceAdd, Nat.reduceLeDiff, Nat.le_refl, List.nil_append, List.length_append, Int.toNat_natCast, Int.natCast_nonneg, Bool.not_true, Bool.not_false, beq_iff_eq, List.take_succ_cons, List.take_zero, Nat.reduceSub, Nat.sub_self, Nat.reduceMul, Nat.mul_one, evL, ne_eq, not_false_eq_true, get_last, set_last, okE, AV.bd, AV.bdL, Bool.and_self, Bool.and_true, Bool.true_and, List.all_cons, List.all_nil, AV.one, lay, List.set_cons_zero, List.append_nil, beq_self_eq_true, List.drop_nil, evP, fillA, Bool.false_xor, Bool.true_xor, Option.map_none, List.cons_append, hdOk, List.set_cons_succ]
    refine ite_i (fun hk => ite_i (fun hp => ?_) (fun hp => ?_)) (fun hk => ?_)
    · simp only [dropS, hk, hp, if_true]
      exact fin 2 _ _ hsc
    · simp only [dropS, hk, hp, if_true, if_false]
      refine lp6 l id hl hs _ _ 0 (Nat.zero_le _) _ [] .nl [] [] rfl rfl rfl (accN_nil _) (fun e B tk t ns ts he4 he6 hB2 hB1 ha => ?_)
      have hb1 : 1 < B.length := (List.getElem?_eq_some_iff.1 hB1).1
      have hself : ∀ Y, (B.set 1 Y)[1]? = some Y := fun Y => List.getElem?_set_self hb1
      obtain ⟨ts', hr, hn⟩ := accN_sc ha
      have hbd := bdL_ndsO ha.1
      simp only [he4, he6, hB2, hB1, hself, hbd, len_nd, ↓cut_nd, all_nd, bdL_nd, ↓lay_nd, nd_0, nd_1, nd_2, List.getElem?_drop, List.length_drop, bdL_ints, bdL_pts, W_start, ↓WS_seq, ↓WS_reg, ↓WS_cond, ↓WS_ret, ↓WS_skip, ↓WS_exit, ↓WS_block, ↓WS_loop, ↓WE_nil, ↓WE_sq_n, ↓WE_sq_r, ↓WE_sq_x, ↓WE_bk_n, ↓WE_bk_r, ↓WE_bk_x, ↓WE_lp_n, ↓WE_lp_r, ↓WE_lp_x, ↓WR_nil, ↓WR_cons, ↓WR_guard, WV_some, WT_bool, WT_int, WT_str, WT_nil, WT_ptr, WT_adr, WT_sl, WT_agg, WT_tup, WT_fn, WT_bsl, WT_und, WT_any, WC_bool, WG_bool, WG_und, SOp.ev, X.ev, updO_some, updO_none, ↓upd_same, ↓upd_ne, ↓reduceIte, pick, argEnv_cons, argEnv_nil, bot_at, endQ, resL, resA, oneOrTup, abin, ibin, Nat.reduceEqDiff, if_true, if_false, Option.map_some, seal_bool, seal_int, cond_true, cond_false, Bool.false_eq_true, reduceCtorEq, decide_eq_true_eq, and_self, and_true, true_and, AV.known, AV.cells, cut, List.length_cons, List.length_nil, List.length_map, List.drop_zero, List.drop_succ_cons, List.getElem?_cons_zero, List.getElem?_cons_succ, List.getElem?_append_right, List.getElem?_map, Nat.zero_add, Nat.add_zero, Nat.reduceAdd, Nat.reduceLeDiff, Nat.le_refl, List.nil_append, List.length_append, Int.toNat_natCast, Int.natCast_nonneg, Bool.not_true, Bool.not_false, beq_iff_eq, List.take_succ_cons, List.take_zero, Nat.reduceSub, Nat.sub_self, Nat.reduceMul, Nat.mul_one, evL, ne_eq, not_false_eq_true, get_last, set_last, okE, AV.bd, AV.bdL, Bool.and_self, Bool.and_true, Bool.true_and, List.all_cons, List.all_nil, AV.one, lay, List.set_cons_zero, List.append_nil, beq_self_eq_true, List.drop_nil, evP, fillA, Bool.false_xor, Bool.true_xor, Option.map_none, List.cons_append, hdOk, List.set_cons_succ]
      exact fin 0 _ _ hr
    · simp only [dropS, hk, if_false]
      exact fin 1 _ _ hsc)
  refine ⟨s.shift 0, tk, ⟨_, scO_shift 0 hs'⟩, fun fl B a ha => ?_⟩
  have := h fl ⟨B, []⟩ [a, i64 id] (by simp only [snapL, mapO, ha, snap_i])
  simpa [AV.shift, shiftL] using this
end Go.Proofs.Ytnehpfaafgnnpaa

namespace Go.Proofs.Ytnehpfaafgnnpaa
open Go.AM Go.AM.AV

theorem bd_slB {B : List (List AV)} {w : AV} {xs : List AV} {sz : Nat} {ag : Bool} {bs : List Nat} (h : slB B w xs sz ag bs) {k : Nat} (hk : ∀ j ∈ bs, j < k) : w.bd k = true := by
  rcases h with ⟨rfl, -, -⟩ | ⟨b, rfl, -, hb, rfl⟩
  · rfl
  · have := hk b (by simp)
    simp only [AV.bd, decide_eq_true_eq]; omega
theorem one_slB {B : List (List AV)} {w : AV} {xs : List AV} {sz : Nat} {ag : Bool} {bs : List Nat} (h : slB B w xs sz ag bs) : AV.one w = true := by
  rcases h with ⟨rfl, -, -⟩ | ⟨b, rfl, -, hb, -⟩ <;> rfl
theorem bd_ndB {B : List (List AV)} {x : AV} {n : Nd} {bs : List Nat} (h : ndB B x n bs) {k : Nat} (hk : ∀ j ∈ bs, j < k) : bdL k x.cells = true := by
  obtain ⟨v, p, d, cv, cp, b1, b2, b3, b4, b5, rfl, h1, h2, h3, h4, h5, rfl⟩ := h
  simp only [List.mem_append] at hk
  have e1 := bd_slB h1 (k := k) fun j hj => hk j (by simp [hj])
  have e2 := bd_slB h2 (k := k) fun j hj => hk j (by simp [hj])
  have e3 := bd_slB h3 (k := k) fun j hj => hk j (by simp [hj])
  have e4 := bd_slB h4 (k := k) fun j hj => hk j (by simp [hj])
  have e5 := bd_slB h5 (k := k) fun j hj => hk j (by simp [hj])
  have hi : ∀ n : Int, AV.bd k (i64 n) = true := fun _ => rfl
  have hb : ∀ b : Bool, AV.bd k (.bool b) = true := fun _ => rfl
  simp only [AV.cells, ndW, bdL, e1, e2, e3, e4, e5, hi, hb, Bool.and_self]
theorem one_ndB {B : List (List AV)} {x : AV} {n : Nd} {bs : List Nat} (h : ndB B x n bs) : x.cells.all AV.one = true := by
  obtain ⟨v, p, d, cv, cp, b1, b2, b3, b4, b5, rfl, h1, h2, h3, h4, h5, -⟩ := h
  have o1 := one_slB h1; have o2 := one_slB h2; have o3 := one_slB h3; have o4 := one_slB h4; have o5 := one_slB h5
  have hi : ∀ n : Int, AV.one (i64 n) = true := fun _ => rfl
  have hb : ∀ b : Bool, AV.one (.bool b) = true := fun _ => rfl
  simp only [AV.cells, ndW, List.all_cons, List.all_nil, o1, o2, o3, o4, o5, hi, hb, Bool.and_self]

def kept (u : List Int) (l : List Nd) : List Nd := l.filter fun n => !decide (n.id ∈ u)

theorem lp25 (l : List Nd) (u : List Int) (hl : l.length ≤ 1048576) (hu : u.length < 4611686018427387904) (b ub : Nat) (hub : ub ≠ b) (t : Tok) (tk : List (Nat × Nat)) (st : List Fr) (Q : Ex → Env → Mem → Prop) :
    ∀ j, j ≤ l.length → ∀ (B : List (List AV)) (C : List AV) (ks zs : List AV) (K : List Nd) (c1 c2 : List Nat), B[b]? = some C → C.length = l.length * 31 → C.take (ks.length * 31) = flat ks → C.drop (j * 31) = flat zs → ks.length < j →
      ndsB B ks K c1 → ndsB B zs (l.drop j) c2 → B[ub]? = some [.sl t (ints u)] → (∀ k ∈ c1 ++ c2, k < b) →
      (∀ (e : Env) (B' : List (List AV)) (C' ks' : List AV) (c' : List Nat), e 0 = .bsl b 0 l.length 31 true → e 5 = i64 ks'.length → B'[b]? = some C' → C'.length = l.length * 31 → C'.take (ks'.length * 31) = flat ks' → ks'.length ≤ l.length →
        ndsB B' ks' (K ++ kept u (l.drop j)) c' → c'.Sublist (c1 ++ c2) → B.length ≤ B'.length → (∀ j, j ≠ b → j < B.length → B'[j]? = B[j]?) → WE T (.exit 0) st e ⟨B', tk⟩ Q) →
      WL T [0, 1, 5, 6] f25L0 st (upd (upd (upd (upd bot 6 (i64 j)) 5 (i64 ks.length)) 1 (.fn 26 [.ptr ub 0])) 0 (.bsl b 0 l.length 31 true)) ⟨B, tk⟩ Q := by
  refine upto _ ?_ fun j hj ih B C ks zs K c1 c2 hb hC hks hzs hij h1 h2 hbu hlb hx => ?_
  · intro B C ks zs K c1 c2 hb hC hks hzs hij h1 h2 hbu hlb hx
    rw [List.drop_length] at h2 hx
    rw [WL_go (a := f25L0) (b := f25L0b) rfl]
    simp only [f25L0b, Int.lt_irrefl, W_start, ↓WS_seq, ↓WS_reg, ↓WS_cond, ↓WS_ret, ↓WS_skip, ↓WS_exit, ↓WS_block, ↓WS_loop, ↓WE_nil, ↓WE_sq_n, ↓WE_sq_r, ↓WE_sq_x, ↓WE_bk_n, ↓WE_bk_r, ↓WE_bk_x, ↓WE_lp_n, ↓WE_lp_r, ↓WE_lp_x, ↓WR_nil, ↓WR_cons, ↓WR_guard, WV_some, WT_bool, WT_int, WT_str, WT_nil, WT_ptr, WT_adr, WT_sl, WT_agg, WT_tup, WT_fn, WT_bsl, WT_und, WT_any, WC_bool, WG_bool, WG_und, SOp.ev, X.ev, updO_some, updO_none, ↓upd_same, ↓upd_ne, ↓reduceIte, pick, argEnv_cons, argEnv_nil, bot_at, endQ, resL, resA, oneOrTup, abin, ibin, Nat.reduceEqDiff, if_true, if_false, Option.map_some, seal_bool, seal_int, cond_true, cond_false, Bool.false_eq_true, reduceCtorEq, decide_eq_true_eq, and_self, and_true, true_and, AV.known, AV.cells, cut, List.length_cons, List.length_nil, List.length_map, List.drop_zero, List.drop_succ_cons, List.getElem?_cons_zero, List.getElem?_cons_succ, List.getElem?_append_right, List.getElem?_map, Nat.zero_add, Nat.add_zero, Nat.reduceAdd, Nat.reduceLeDiff, Nat.le_refl, List.nil_append, List.length_append, Int.toNat_natCast, Int.natCast_nonneg, Bool.not_true, Bool.not_false, beq_iff_eq, List.take_succ_cons, List.take_zero, Nat.reduceSub, Nat.sub_self, Nat.reduceMul, Nat.mul_one, evL, ne_eq, not_false_eq_true, get_last, set_last, okE, AV.bd, AV.bdL, Bool.and_self, Bool.and_true, Bool.true_and, List.all_cons, List.all_nil, AV.one, lay, List.set_cons_zero, List.append_nil, beq_self_eq_true, List.drop_nil, evP, fillA, Bool.false_xor, Bool.true_xor, Option.map_none, List.cons_append, hdOk, List.set_cons_succ]
    refine hx _ B C ks c1 rfl rfl hb hC hks (by omega) ?_ (List.sublist_append_left _ _) (Nat.le_refl _) fun j _ _ => rfl
    simpa [kept] using h1
  · rw [List.drop_eq_getElem_cons hj] at h2 hx
    generalize l[j] = n at *
    cases zs with
    | nil => exact h2.elim
    | cons z zs =>
      obtain ⟨d1, d2, hz, hz2, rfl⟩ := h2
      have hlt' : (j : Int) < l.length := by omega
      have hw1 : IntKind.i64.wrap ((j : Int) + 1) = j + 1 := wrap_ok (by omega)
      have hw2 : IntKind.i64.wrap ((ks.length : Int) + 1) = ks.length + 1 := wrap_ok (by omega)
      have hblt : b < B.length := (List.getElem?_eq_some_iff.1 hb).1
      have hzl : z.cells.length = 31 := by obtain ⟨cs, rfl, hc⟩ := ndB_len hz; exact hc
      have hcut : (C.drop (j * 31)).take 31 = z.cells := by
        rw [hzs, flat_cons, ← hzl, List.take_left]
      have hzs' : C.drop ((j + 1) * 31) = flat zs := by
        rw [show (j + 1) * 31 = j * 31 + 31 by omega, ← List.drop_drop, hzs, flat_cons, ← hzl, List.drop_left]
      have hjl : j * 31 + 31 ≤ C.length := by omega
      have hd1b : ∀ k ∈ d1, k < b := fun k hk => hlb k (by simp [hk])
      have hbd := bd_ndB hz (k := B.length + 1) fun k hk => by have := hd1b k hk; omega
      have hbd2 := bd_ndB hz (k := b + 1) fun k hk => by have := hd1b k hk; omega
      have hone := one_ndB hz
      have hBa : ∀ y, (B ++ [y])[b]? = some C := fun y => by rw [List.getElem?_append_left hblt]; exact hb
      have hlast : ∀ y, (B ++ [y])[B.length]? = some y := fun y => get_last B y
      have hkeep : ∀ (y : List AV) (bs : List Nat), (∀ k ∈ bs, k < B.length) → ∀ k ∈ bs, (B ++ [y])[k]? = B[k]? := fun y bs h k hk => List.getElem?_append_left (h k hk)
      have hzB : ∀ y, ndB (B ++ [y]) z n d1 := fun y => ndB_keep hz (hkeep y d1 fun k hk => by
        have h3 : ndsB B [z] [n] d1 := ⟨d1, [], hz, rfl, by simp⟩
        exact ndsB_lt h3 k hk)
      have h1B : ∀ y, ndsB (B ++ [y]) ks K c1 := fun y => ndsB_keep h1 (hkeep y c1 (ndsB_lt h1))
      have h2B : ∀ y, ndsB (B ++ [y]) zs (l.drop (j + 1)) d2 := fun y => ndsB_keep hz2 (hkeep y d2 (ndsB_lt hz2))
      have hult : ub < B.length := (List.getElem?_eq_some_iff.1 hbu).1
      have hbuB : ∀ y, (B ++ [y])[ub]? = some [.sl t (ints u)] := fun y => by rw [List.getElem?_append_left hult]; exact hbu
      have h26 : ∀ fl y, Cl T fl 26 [.agg z.cells, .ptr ub 0] ⟨B ++ [y], tk⟩ = some (.bool (decide (n.id ∈ u)), ⟨B ++ [y], tk⟩) := fun fl y => by
        refine cl26 fl _ _ n u hu ?_
        have e1 : snapN 6 ⟨B ++ [y], tk⟩ (.agg z.cells) = some (.agg (ndC n)) := by
          rw [snapN.eq_def]
          simp only [snap_ndB (M := ⟨B ++ [y], tk⟩) (hzB y) 3, Option.map_some]
        have e2 : snapN 6 ⟨B ++ [y], tk⟩ (.ptr ub 0) = some (.adr [.sl .sh (ints u)]) := by
          rw [snapN.eq_def]
          simp only [hbuB, List.drop_zero, mapO, snap_ints, Option.map_some]
        simp only [snapL, mapO, e1, e2]
      have hcl : ∀ cs : List AV, cs.length = 31 → lay cs 0 z.cells = z.cells := fun cs hcs => by
        simp only [lay, List.take_zero, List.nil_append, Nat.zero_add]
        rw [hzl, ← hcs, List.drop_length, List.append_nil]
      have hsetB : ∀ (y : List AV) (Y : List AV) (bs : List Nat), (∀ k ∈ bs, k < b) → ∀ k ∈ bs, ((B ++ [y]).set b Y)[k]? = B[k]? := fun y Y bs h k hk => by
        have := h k hk
        rw [List.getElem?_set_ne (by omega), List.getElem?_append_left (by omega)]
      obtain ⟨W, rfl, hWl⟩ := ndB_len hz
      simp only [AV.cells] at *
      have hWt : W.take 31 = W := by rw [← hWl, List.take_length]
      by_cases hm : n.id ∈ u
      · have hkf : kept u (n :: l.drop (j + 1)) = kept u (l.drop (j + 1)) := by simp [kept, hm]
        rw [hkf] at hx
        rw [WL_go (a := f25L0) (b := f25L0b) rfl]
        simp only [f25L0b, hb, hlt', hw1, hcut, hjl, hbd, hone, hWl, hWt, hBa, hlast, h26, hm, ↓hcl, decide_true, W_start, ↓WS_seq, ↓WS_reg, ↓WS_cond, ↓WS_ret, ↓WS_skip, ↓WS_exit, ↓WS_block, ↓WS_loop, ↓WE_nil, ↓WE_sq_n, ↓WE_sq_r, ↓WE_sq_x, ↓WE_bk_n, ↓WE_bk_r, ↓WE_bk_x, ↓WE_lp_n, ↓WE_lp_r, ↓WE_lp_x, ↓WR_nil, ↓WR_cons, ↓WR_guard, WV_some, WT_bool, WT_int, WT_str, WT_nil, WT_ptr, WT_adr, WT_sl, WT_agg, WT_tup, WT_fn, WT_bsl, WT_und, WT_any, WC_bool, WG_bool, WG_und, SOp.ev, X.ev, updO_some, updO_none, ↓upd_same, ↓upd_ne, ↓reduceIte, pick, argEnv_cons, argEnv_nil, bot_at, endQ, resL, resA, oneOrTup, abin, ibin, Nat.reduceEqDiff, if_true, if_false, Option.map_some, seal_bool, seal_int, cond_true, cond_false, Bool.false_eq_true, reduceCtorEq, decide_eq_true_eq, and_self, and_true, true_and, AV.known, AV.cells, cut, List.length_cons, List.length_nil, List.length_map, List.drop_zero, List.drop_succ_cons, List.getElem?_cons_zero, List.getElem?_cons_succ, List.getElem?_append_right, List.getElem?_map, Nat.zero_add, Nat.add_zero, Nat.reduceAdd, Nat.reduceLeDiff, Nat.le_refl, List.nil_append, List.length_append, Int.toNat_natCast, Int.natCast_nonneg, Bool.not_true, Bool.not_false, beq_iff_eq, List.take_succ_cons, List.take_zero, Nat.reduceSub, Nat.sub_self, Nat.reduceMul, Nat.mul_one, evL, ne_eq, not_false_eq_true, get_last, set_last, okE, AV.bd, AV.bdL, Bool.and_self, Bool.and_true, Bool.true_and, List.all_cons, List.all_nil, AV.one, lay, List.set_cons_zero, List.append_nil, beq_self_eq_true, List.drop_nil, evP, fillA, Bool.false_xor, Bool.true_xor, Option.map_none, List.cons_append, hdOk, List.set_cons_succ]
        refine ih (B ++ [W]) C ks zs K c1 d2 (hBa _) hC hks hzs' (by omega) (h1B _) (h2B _) (hbuB _) (fun k hk => ?_) ?_
        · rcases List.mem_append.1 hk with hk | hk
          · exact hlb k (by simp [hk])
          · exact hlb k (by simp [hk])
        · intro e B' C' ks' c' q1 q2 q3 q4 q5 q6 q7 q8 q9 q10
          refine hx e B' C' ks' c' q1 q2 q3 q4 q5 q6 q7 (q8.trans ?_) (by rw [List.length_append] at q9; omega) fun k hk hk2 => ?_
          · exact (List.Sublist.refl c1).append (List.sublist_append_right _ _)
          · rw [q10 k hk (by rw [List.length_append]; omega), List.getElem?_append_left hk2]
      · have hkf : kept u (n :: l.drop (j + 1)) = n :: kept u (l.drop (j + 1)) := by simp [kept, hm]
        rw [hkf] at hx
        have hil : ks.length * 31 + 31 ≤ C.length := by omega
        have hself : ∀ y Y, ((B ++ [y]).set b Y)[b]? = some Y := fun y Y => List.getElem?_set_self (by rw [List.length_append]; omega)
        have hki : (ks.length : Int) < l.length := by omega
        rw [WL_go (a := f25L0) (b := f25L0b) rfl]
        simp only [f25L0b, hb, hlt', hki, hw1, hw2, hcut, hjl, hil, hbd, hbd2, hone, hWl, hWt, hBa, hlast, h26, hm, ↓hcl, decide_false, W_start, ↓WS_seq, ↓WS_reg, ↓WS_cond, ↓WS_ret, ↓WS_skip, ↓WS_exit, ↓WS_block, ↓WS_loop, ↓WE_nil, ↓WE_sq_n, ↓WE_sq_r, ↓WE_sq_x, ↓WE_bk_n, ↓WE_bk_r, ↓WE_bk_x, ↓WE_lp_n, ↓WE_lp_r, ↓WE_lp_x, ↓WR_nil, ↓WR_cons, ↓WR_guard, WV_some, WT_bool, WT_int, WT_str, WT_nil, WT_ptr, WT_adr, WT_sl, WT_agg, WT_tup, WT_fn, WT_bsl, WT_und, WT_any, WC_bool, WG_bool, WG_und, SOp.ev, X.ev, updO_some, updO_none, ↓upd_same, ↓upd_ne, ↓reduceIte, pick, argEnv_cons, argEnv_nil, bot_at, endQ, resL, resA, oneOrTup, abin, ibin, Nat.reduceEqDiff, if_true, if_false, Option.map_some, seal_bool, seal_int, cond_true, cond_false, Bool.false_eq_true, reduceCtorEq, decide_eq_true_eq, and_self, and_true, true_and, AV.known, AV.cells, cut, List.length_cons, List.length_nil, List.length_map, List.drop_zero, List.drop_succ_cons, List.getElem?_cons_zero, List.getElem?_cons_succ, List.getElem?_append_right, List.getElem?_map, Nat.zero_add, Nat.add_zero, Nat.reduceAdd, Nat.reduceLeDiff, Nat.le_refl, List.nil_append, List.length_append, Int.toNat_natCast, Int.natCast_nonneg, Bool.not_true, Bool.not_false, beq_iff_eq, List.take_succ_cons, List.take_zero, Nat.reduceSub, Nat.sub_self, Nat.reduceMul, Nat.mul_one, evL, ne_eq, not_false_eq_true, get_last, set_last, okE, AV.bd, AV.bdL, Bool.and_self, Bool.and_true, Bool.true_and, List.all_cons, List.all_nil, AV.one, lay, List.set_cons_zero, List.append_nil, beq_self_eq_true, List.drop_nil, evP, fillA, Bool.false_xor, Bool.true_xor, Option.map_none, List.cons_append, hdOk, List.set_cons_succ]
        have hkl : (flat ks).length = ks.length * 31 := flat_len 31 _ (ndsB_cl h1)
        have hx1 : ∀ y Y, ndB ((B ++ [y]).set b Y) (.agg W) n d1 := fun y Y => ndB_keep hz (hsetB y Y d1 hd1b)
        have := ih ((B ++ [W]).set b (C.take (ks.length * 31) ++ W ++ C.drop (ks.length * 31 + 31))) _ (ks ++ [.agg W]) zs (K ++ [n]) (c1 ++ d1) d2 (hself _ _) (by
            simp only [List.length_append, List.length_take, List.length_drop, hWl]; omega) (by
            rw [hks]
            rw [List.take_append_of_le_length (by simp only [List.length_append, hkl, hWl, List.length_cons, List.length_nil]; omega)]
            rw [List.take_of_length_le (by simp only [List.length_append, hkl, hWl, List.length_cons, List.length_nil]; omega)]
            rw [flat_app, flat_cons]; simp [flat, AV.cells]) (by
            rw [hks, List.drop_append, List.drop_of_length_le (by simp only [List.length_append, hkl, hWl]; omega), List.nil_append, List.drop_drop, ← hzs']
            congr 1
            simp only [List.length_append, hkl, hWl]; omega) (by simp; omega)
            (ndsB_snoc (hx1 _ _) (ndsB_keep h1 (hsetB _ _ c1 fun k hk => hlb k (by simp [hk])))) (ndsB_keep hz2 (hsetB _ _ d2 fun k hk => hlb k (by simp [hk])))
            (by rw [List.getElem?_set_ne (Ne.symm hub)]; exact hbuB _) (fun k hk => hlb k (by simp only [List.mem_append] at hk ⊢; rcases hk with (hk | hk) | hk <;> simp [hk])) ?_
        · simpa only [List.length_append, List.length_cons, List.length_nil, Nat.zero_add, Int.natCast_add, Int.natCast_one] using this
        · intro e B' C' ks' c' q1 q2 q3 q4 q5 q6 q7 q8 q9 q10
          refine hx e B' C' ks' c' q1 q2 q3 q4 q5 q6 (by simpa only [List.append_assoc, List.cons_append, List.nil_append] using q7) (by rwa [List.append_assoc] at q8) (by rw [List.length_set, List.length_append] at q9; omega) fun k hk hk2 => ?_
          rw [q10 k hk (by rw [List.length_set, List.length_append]; omega), List.getElem?_set_ne (Ne.symm hk), List.getElem?_append_left hk2]
end Go.Proofs.Ytnehpfaafgnnpaa
