/- The law's sizes. -/
import Derived.Test.YtnehpfaafgnnpaaMU
set_option linter.unusedSimpArgs false
set_option linter.unusedVariables false
set_option linter.unnecessarySimpa false
namespace Go.Proofs.Ytnehpfaafgnnpaa
open Go.AM Go.AM.AV

structure bgN (n : Nd) : Prop where
  v : n.path.verbs.length ≤ 9223372036854775807
  p : n.path.points.length ≤ 9223372036854775807
  d : n.dashes.length ≤ 9223372036854775807
  cv : n.clip.verbs.length ≤ 9223372036854775807
  cp : n.clip.points.length ≤ 9223372036854775807
def szI (left : Int) (n : Nat) : Int := if left - n < 0 then -1 else left - n
def szP (left : Int) (p : Pth) : Int := if szI left p.verbs.length < 0 then -1 else szI (szI left p.verbs.length) p.points.length
def szN (left : Int) (n : Nd) : Int := if szP left n.path < 0 then -1 else if szI (szP left n.path) n.dashes.length < 0 then -1 else szP (szI (szP left n.path) n.dashes.length) n.clip
def szL : Int → List Nd → Int
  | left, [] => left
  | left, n :: r => if szN left n < 0 then -1 else szL (szN left n) r
def szS (left : Int) (l : List Nd) : Int := if left - l.length < 0 then -1 else szL (left - l.length) l

theorem szI_le {left : Int} {n : Nat} (h : ¬ szI left n < 0) : szI left n ≤ left ∧ (n : Int) ≤ left := by
  unfold szI at h ⊢; split <;> split at h <;> omega
theorem szI_b (left : Int) (n : Nat) (h0 : -1 ≤ left) : -1 ≤ szI left n ∧ szI left n ≤ left := by
  unfold szI; split <;> omega
theorem szP_b (left : Int) (p : Pth) (h0 : -1 ≤ left) : -1 ≤ szP left p ∧ szP left p ≤ left := by
  have h1 := szI_b left p.verbs.length h0
  have h2 := szI_b _ p.points.length h1.1
  unfold szP; split <;> omega
theorem szN_b (left : Int) (n : Nd) (h0 : -1 ≤ left) : -1 ≤ szN left n ∧ szN left n ≤ left := by
  have h1 := szP_b left n.path h0
  have h2 := szI_b _ n.dashes.length h1.1
  have h3 := szP_b _ n.clip h2.1
  unfold szN; split
  · omega
  · split <;> omega
theorem szP_le {left : Int} {p : Pth} (h : ¬ szP left p < 0) : szP left p ≤ left ∧ (p.verbs.length : Int) ≤ left ∧ (p.points.length : Int) ≤ left := by
  unfold szP at h ⊢
  split at h
  · omega
  · rename_i h1
    have h2 := szI_le h1
    have h3 := szI_le h
    rw [if_neg h1]; omega
theorem szN_le {left : Int} {n : Nd} (hl : left ≤ 1048576) (h : ¬ szN left n < 0) : szN left n ≤ left ∧ smN n := by
  unfold szN at h ⊢
  split at h
  · omega
  · rename_i h1
    split at h
    · omega
    · rename_i h2
      have a1 := szP_le h1
      have a2 := szI_le h2
      have a3 := szP_le h
      rw [if_neg h1, if_neg h2]
      exact ⟨by omega, ⟨by omega, by omega, by omega, by omega, by omega⟩⟩
theorem szL_le : ∀ {l : List Nd} {left : Int}, left ≤ 1048576 → ¬ szL left l < 0 → ∀ n ∈ l, smN n
  | [], _, _, _, n, hn => by cases hn
  | x :: r, left, hl, h, n, hn => by
    unfold szL at h
    split at h
    · omega
    · rename_i h1
      have a1 := szN_le hl h1
      rcases List.mem_cons.1 hn with rfl | hn
      · exact a1.2
      · exact szL_le (by omega) h n hn
theorem szS_le {l : List Nd} {left : Int} (hl : left ≤ 1048576) (h : ¬ szS left l < 0) : l.length ≤ 1048576 ∧ ∀ n ∈ l, smN n := by
  unfold szS at h
  split at h
  · omega
  · exact ⟨by omega, szL_le (by omega) h⟩

theorem cl57 (fl : Bool) (M : Mem) (l : List Int) (left : Int) (h0 : -1 ≤ left ∧ left ≤ 1048576) (hl : l.length ≤ 9223372036854775807) : Cl T fl 57 [.sl .sh (ints l), i64 left] M = some (i64 (szI left l.length), M) := by
  refine cl_pure (r := i64 (szI left l.length)) (ar := [.sl .sh (ints l), i64 left]) T_e57 T_f57 rfl (by simp only [snapL, mapO, snap_ints, snap_i]) (Nat.le_of_ble_eq_true rfl) ?_
  have hlen : (ints l).length = l.length := by simp [ints]
  have hw : IntKind.i64.wrap (left - (l.length : Int)) = left - l.length := wrap_ok (by omega)
  simp only [f57S, f57B, hlen, hw, W_start, ↓WS_seq, ↓WS_reg, ↓WS_cond, ↓WS_ret, ↓WS_skip, ↓WS_exit, ↓WS_block, ↓WS_loop, ↓WE_nil, ↓WE_sq_n, ↓WE_sq_r, ↓WE_sq_x, ↓WE_bk_n, ↓WE_bk_r, ↓WE_bk_x, ↓WE_lp_n, ↓WE_lp_r, ↓WE_lp_x, ↓WR_nil, ↓WR_cons, ↓WR_guard, WV_some, WT_bool, WT_int, WT_str, WT_nil, WT_ptr, WT_adr, WT_sl, WT_agg, WT_tup, WT_fn, WT_bsl, WT_und, WT_any, WC_bool, WG_bool, WG_und, SOp.ev, X.ev, updO_some, updO_none, ↓upd_same, ↓upd_ne, ↓reduceIte, pick, argEnv_cons, argEnv_nil, bot_at, endQ, resL, resA, oneOrTup, abin, ibin, Nat.reduceEqDiff, if_true, if_false, Option.map_some, seal_bool, seal_int, cond_true, cond_false, Bool.false_eq_true, reduceCtorEq, decide_eq_true_eq, and_self, and_true, true_and, AV.known, AV.cells, cut, List.length_cons, List.length_nil, List.length_map, List.drop_zero, List.drop_succ_cons, List.getElem?_cons_zero, List.getElem?_cons_succ, List.getElem?_append_right, List.getElem?_map, Nat.zero_add, Nat.add_zero, Nat.reduceAdd, Nat.reduceLeDiff, Nat.le_refl, List.nil_append, List.length_append, Int.toNat_natCast, Int.natCast_nonneg, Bool.not_true, Bool.not_false, beq_iff_eq, List.take_succ_cons, List.take_zero, Nat.reduceSub, Nat.sub_self, Nat.reduceMul, Nat.mul_one, evL, ne_eq, not_false_eq_true, get_last, set_last, okE, AV.bd, AV.bdL, Bool.and_self, Bool.and_true, Bool.true_and, List.all_cons, List.all_nil, AV.one, lay, List.set_cons_zero, List.append_nil, beq_self_eq_true, List.drop_nil, evP, fillA, Bool.false_xor, Bool.true_xor, Option.map_none, List.cons_append, hdOk, List.set_cons_succ]
  refine ite_i (fun h => ?_) (fun h => ?_) <;> simp only [szI, h, if_true, if_false]
theorem cl82 (fl : Bool) (M : Mem) (l : List Pt) (left : Int) (h0 : -1 ≤ left ∧ left ≤ 1048576) (hl : l.length ≤ 9223372036854775807) : Cl T fl 82 [.sl .sh (pts l), i64 left] M = some (i64 (szI left l.length), M) := by
  refine cl_pure (r := i64 (szI left l.length)) (ar := [.sl .sh (pts l), i64 left]) T_e82 T_f82 rfl (by simp only [snapL, mapO, snap_pts, snap_i]) (Nat.le_of_ble_eq_true rfl) ?_
  have hlen : (pts l).length = l.length := by simp [pts]
  have hw : IntKind.i64.wrap (left - (l.length : Int)) = left - l.length := wrap_ok (by omega)
  simp only [f82S, f82B, hlen, hw, W_start, ↓WS_seq, ↓WS_reg, ↓WS_cond, ↓WS_ret, ↓WS_skip, ↓WS_exit, ↓WS_block, ↓WS_loop, ↓WE_nil, ↓WE_sq_n, ↓WE_sq_r, ↓WE_sq_x, ↓WE_bk_n, ↓WE_bk_r, ↓WE_bk_x, ↓WE_lp_n, ↓WE_lp_r, ↓WE_lp_x, ↓WR_nil, ↓WR_cons, ↓WR_guard, WV_some, WT_bool, WT_int, WT_str, WT_nil, WT_ptr, WT_adr, WT_sl, WT_agg, WT_tup, WT_fn, WT_bsl, WT_und, WT_any, WC_bool, WG_bool, WG_und, SOp.ev, X.ev, updO_some, updO_none, ↓upd_same, ↓upd_ne, ↓reduceIte, pick, argEnv_cons, argEnv_nil, bot_at, endQ, resL, resA, oneOrTup, abin, ibin, Nat.reduceEqDiff, if_true, if_false, Option.map_some, seal_bool, seal_int, cond_true, cond_false, Bool.false_eq_true, reduceCtorEq, decide_eq_true_eq, and_self, and_true, true_and, AV.known, AV.cells, cut, List.length_cons, List.length_nil, List.length_map, List.drop_zero, List.drop_succ_cons, List.getElem?_cons_zero, List.getElem?_cons_succ, List.getElem?_append_right, List.getElem?_map, Nat.zero_add, Nat.add_zero, Nat.reduceAdd, Nat.reduceLeDiff, Nat.le_refl, List.nil_append, List.length_append, Int.toNat_natCast, Int.natCast_nonneg, Bool.not_true, Bool.not_false, beq_iff_eq, List.take_succ_cons, List.take_zero, Nat.reduceSub, Nat.sub_self, Nat.reduceMul, Nat.mul_one, evL, ne_eq, not_false_eq_true, get_last, set_last, okE, AV.bd, AV.bdL, Bool.and_self, Bool.and_true, Bool.true_and, List.all_cons, List.all_nil, AV.one, lay, List.set_cons_zero, List.append_nil, beq_self_eq_true, List.drop_nil, evP, fillA, Bool.false_xor, Bool.true_xor, Option.map_none, List.cons_append, hdOk, List.set_cons_succ]
  refine ite_i (fun h => ?_) (fun h => ?_) <;> simp only [szI, h, if_true, if_false]
theorem cl56 (fl : Bool) (M : Mem) (p : Pth) (left : Int) (h0 : -1 ≤ left ∧ left ≤ 1048576) (hv : p.verbs.length ≤ 9223372036854775807) (hp : p.points.length ≤ 9223372036854775807) :
    Cl T fl 56 [.agg [.sl .sh (ints p.verbs), .sl .sh (pts p.points)], i64 left] M = some (i64 (szP left p), M) := by
  refine cl_pure (r := i64 (szP left p)) (ar := [.agg (pthC p), i64 left]) T_e56 T_f56 rfl (by simp only [snapL, mapO, snap_pth', snap_i]) (Nat.le_of_ble_eq_true rfl) ?_
  have b1 := szI_b left p.verbs.length h0.1
  have b2 := szI_b _ p.points.length b1.1
  have c1 := fun fl M => cl57 fl M p.verbs left h0 hv
  have c2 := fun fl M => cl82 fl M p.points (szI left p.verbs.length) (by omega) hp
  simp only [f56S, f56B, pthC, c1, c2, W_start, ↓WS_seq, ↓WS_reg, ↓WS_cond, ↓WS_ret, ↓WS_skip, ↓WS_exit, ↓WS_block, ↓WS_loop, ↓WE_nil, ↓WE_sq_n, ↓WE_sq_r, ↓WE_sq_x, ↓WE_bk_n, ↓WE_bk_r, ↓WE_bk_x, ↓WE_lp_n, ↓WE_lp_r, ↓WE_lp_x, ↓WR_nil, ↓WR_cons, ↓WR_guard, WV_some, WT_bool, WT_int, WT_str, WT_nil, WT_ptr, WT_adr, WT_sl, WT_agg, WT_tup, WT_fn, WT_bsl, WT_und, WT_any, WC_bool, WG_bool, WG_und, SOp.ev, X.ev, updO_some, updO_none, ↓upd_same, ↓upd_ne, ↓reduceIte, pick, argEnv_cons, argEnv_nil, bot_at, endQ, resL, resA, oneOrTup, abin, ibin, Nat.reduceEqDiff, if_true, if_false, Option.map_some, seal_bool, seal_int, cond_true, cond_false, Bool.false_eq_true, reduceCtorEq, decide_eq_true_eq, and_self, and_true, true_and, AV.known, AV.cells, cut, List.length_cons, List.length_nil, List.length_map, List.drop_zero, List.drop_succ_cons, List.getElem?_cons_zero, List.getElem?_cons_succ, List.getElem?_append_right, List.getElem?_map, Nat.zero_add, Nat.add_zero, Nat.reduceAdd, Nat.reduceLeDiff, Nat.le_refl, List.nil_append, List.length_append, Int.toNat_natCast, Int.natCast_nonneg, Bool.not_true, Bool.not_false, beq_iff_eq, List.take_succ_cons, List.take_zero, Nat.reduceSub, Nat.sub_self, Nat.reduceMul, Nat.mul_one, evL, ne_eq, not_false_eq_true, get_last, set_last, okE, AV.bd, AV.bdL, Bool.and_self, Bool.and_true, Bool.true_and, List.all_cons, List.all_nil, AV.one, lay, List.set_cons_zero, List.append_nil, beq_self_eq_true, List.drop_nil, evP, fillA, Bool.false_xor, Bool.true_xor, Option.map_none, List.cons_append, hdOk, List.set_cons_succ]
  refine ite_i (fun h => ?_) (fun h => ite_i (fun h' => ?_) (fun h' => ?_))
  · simp only [szP, h, if_true]
  · simp only [szP, h, if_false]
    rw [show szI (szI left p.verbs.length) p.points.length = -1 by omega]
  · simp only [szP, h, if_false]
theorem cl36 (fl : Bool) (M : Mem) (n : Nd) (left : Int) (h0 : -1 ≤ left ∧ left ≤ 1048576) (hn : bgN n) : Cl T fl 36 [.agg (ndC n), i64 left] M = some (i64 (szN left n), M) := by
  refine cl_pure (r := i64 (szN left n)) (ar := [ndE n, i64 left]) T_e36 T_f36 rfl (by simp only [snapL, mapO, snap_nd', snap_i]) (Nat.le_of_ble_eq_true rfl) ?_
  have b1 := szP_b left n.path h0.1
  have b2 := szI_b _ n.dashes.length b1.1
  have b3 := szP_b _ n.clip b2.1
  have c1 := fun fl M => cl56 fl M n.path left h0 hn.v hn.p
  have c2 := fun fl M => cl57 fl M n.dashes (szP left n.path) (by omega) hn.d
  have c3 := fun fl M => cl56 fl M n.clip (szI (szP left n.path) n.dashes.length) (by omega) hn.cv hn.cp
  simp only [f36S, f36B, ndE, ndC, ndW, c1, c2, c3, W_start, ↓WS_seq, ↓WS_reg, ↓WS_cond, ↓WS_ret, ↓WS_skip, ↓WS_exit, ↓WS_block, ↓WS_loop, ↓WE_nil, ↓WE_sq_n, ↓WE_sq_r, ↓WE_sq_x, ↓WE_bk_n, ↓WE_bk_r, ↓WE_bk_x, ↓WE_lp_n, ↓WE_lp_r, ↓WE_lp_x, ↓WR_nil, ↓WR_cons, ↓WR_guard, WV_some, WT_bool, WT_int, WT_str, WT_nil, WT_ptr, WT_adr, WT_sl, WT_agg, WT_tup, WT_fn, WT_bsl, WT_und, WT_any, WC_bool, WG_bool, WG_und, SOp.ev, X.ev, updO_some, updO_none, ↓upd_same, ↓upd_ne, ↓reduceIte, pick, argEnv_cons, argEnv_nil, bot_at, endQ, resL, resA, oneOrTup, abin, ibin, Nat.reduceEqDiff, if_true, if_false, Option.map_some, seal_bool, seal_int, cond_true, cond_false, Bool.false_eq_true, reduceCtorEq, decide_eq_true_eq, and_self, and_true, true_and, AV.known, AV.cells, cut, List.length_cons, List.length_nil, List.length_map, List.drop_zero, List.drop_succ_cons, List.getElem?_cons_zero, List.getElem?_cons_succ, List.getElem?_append_right, List.getElem?_map, Nat.zero_add, Nat.add_zero, Nat.reduceAdd, Nat.reduceLeDiff, Nat.le_refl, List.nil_append, List.length_append, Int.toNat_natCast, Int.natCast_nonneg, Bool.not_true, Bool.not_false, beq_iff_eq, List.take_succ_cons, List.take_zero, Nat.reduceSub, Nat.sub_self, Nat.reduceMul, Nat.mul_one, evL, ne_eq, not_false_eq_true, get_last, set_last, okE, AV.bd, AV.bdL, Bool.and_self, Bool.and_true, Bool.true_and, List.all_cons, List.all_nil, AV.one, lay, List.set_cons_zero, List.append_nil, beq_self_eq_true, List.drop_nil, evP, fillA, Bool.false_xor, Bool.true_xor, Option.map_none, List.cons_append, hdOk, List.set_cons_succ]
  refine ite_i (fun h => ?_) (fun h => ite_i (fun h' => ?_) (fun h' => ite_i (fun h'' => ?_) (fun h'' => ?_)))
  · simp only [szN, h, if_true]
  · simp only [szN, h, h', if_true, if_false]
  · simp only [szN, h, h', if_false]
    rw [show szP (szI (szP left n.path) n.dashes.length) n.clip = -1 by omega]
  · simp only [szN, h, h', if_false]

theorem lp14 (l : List Nd) (hl : l.length ≤ 9223372036854775807) (hs : ∀ n ∈ l, bgN n) (st : List Fr) (M : Mem) (Q : Ex → Env → Mem → Prop) :
    ∀ i, i ≤ l.length → ∀ left : Int, 0 ≤ left → left ≤ 1048576 →
      (szL left (l.drop i) = -1 → ∀ e : Env, e 4 = i64 (-1) → WE T .ret st e M Q) →
      (∀ e : Env, e 1 = i64 (szL left (l.drop i)) → WE T (.exit 0) st e M Q) →
      WL T [0, 1, 4, 5] f14L0 st (upd (upd (upd (upd bot 5 (i64 i)) 4 (i64 0)) 1 (i64 left)) 0 (.sl .sh (nds l))) M Q := by
  have hlen : (nds l).length = l.length := by simp [nds]
  refine upto _ ?_ fun i hi ih left h0 h1 hr hx => ?_
  · intro left h0 h1 hr hx
    rw [List.drop_length] at hx
    rw [WL_go (a := f14L0) (b := f14L0b) rfl]
    simp only [f14L0b, hlen, Int.lt_irrefl, W_start, ↓WS_seq, ↓WS_reg, ↓WS_cond, ↓WS_ret, ↓WS_skip, ↓WS_exit, ↓WS_block, ↓WS_loop, ↓WE_nil, ↓WE_sq_n, ↓WE_sq_r, ↓WE_sq_x, ↓WE_bk_n, ↓WE_bk_r, ↓WE_bk_x, ↓WE_lp_n, ↓WE_lp_r, ↓WE_lp_x, ↓WR_nil, ↓WR_cons, ↓WR_guard, WV_some, WT_bool, WT_int, WT_str, WT_nil, WT_ptr, WT_adr, WT_sl, WT_agg, WT_tup, WT_fn, WT_bsl, WT_und, WT_any, WC_bool, WG_bool, WG_und, SOp.ev, X.ev, updO_some, updO_none, ↓upd_same, ↓upd_ne, ↓reduceIte, pick, argEnv_cons, argEnv_nil, bot_at, endQ, resL, resA, oneOrTup, abin, ibin, Nat.reduceEqDiff, if_true, if_false, Option.map_some, seal_bool, seal_int, cond_true, cond_false, Bool.false_eq_true, reduceCtorEq, decide_eq_true_eq, and_self, and_true, true_and, AV.known, AV.cells, cut, List.length_cons, List.length_nil, List.length_map, List.drop_zero, List.drop_succ_cons, List.getElem?_cons_zero, List.getElem?_cons_succ, List.getElem?_append_right, List.getElem?_map, Nat.zero_add, Nat.add_zero, Nat.reduceAdd, Nat.reduceLeDiff, Nat.le_refl, List.nil_append, List.length_append, Int.toNat_natCast, Int.natCast_nonneg, Bool.not_true, Bool.not_false, beq_iff_eq, List.take_succ_cons, List.take_zero, Nat.reduceSub, Nat.sub_self, Nat.reduceMul, Nat.mul_one, evL, ne_eq, not_false_eq_true, get_last, set_last, okE, AV.bd, AV.bdL, Bool.and_self, Bool.and_true, Bool.true_and, List.all_cons, List.all_nil, AV.one, lay, List.set_cons_zero, List.append_nil, beq_self_eq_true, List.drop_nil, evP, fillA, Bool.false_xor, Bool.true_xor, Option.map_none, List.cons_append, hdOk, List.set_cons_succ]
    exact hx _ rfl
  · have hnds : (nds l)[i]? = some (.agg (ndC l[i])) := by simp only [nds, List.getElem?_map, List.getElem?_eq_getElem hi, Option.map_some, ndE]
    have hlt' : (i : Int) < l.length := by omega
    have hw1 : IntKind.i64.wrap ((i : Int) + 1) = i + 1 := wrap_ok (by omega)
    have h36 := fun fl M => cl36 fl M l[i] left (by omega) (hs _ (List.getElem_mem hi))
    have hb := szN_b left l[i] (by omega)
    rw [List.drop_eq_getElem_cons hi] at hr hx
    rw [WL_go (a := f14L0) (b := f14L0b) rfl]
    simp only [f14L0b, hnds, hlen, hlt', hw1, h36, len_nd, ↓cut_nd, all_nd, bdL_nd, ↓lay_nd, nd_0, nd_1, nd_2, List.getElem?_drop, List.length_drop, bdL_ints, bdL_pts, W_start, ↓WS_seq, ↓WS_reg, ↓WS_cond, ↓WS_ret, ↓WS_skip, ↓WS_exit, ↓WS_block, ↓WS_loop, ↓WE_nil, ↓WE_sq_n, ↓WE_sq_r, ↓WE_sq_x, ↓WE_bk_n, ↓WE_bk_r, ↓WE_bk_x, ↓WE_lp_n, ↓WE_lp_r, ↓WE_lp_x, ↓WR_nil, ↓WR_cons, ↓WR_guard, WV_some, WT_bool, WT_int, WT_str, WT_nil, WT_ptr, WT_adr, WT_sl, WT_agg, WT_tup, WT_fn, WT_bsl, WT_und, WT_any, WC_bool, WG_bool, WG_und, SOp.ev, X.ev, updO_some, updO_none, ↓upd_same, ↓upd_ne, ↓reduceIte, pick, argEnv_cons, argEnv_nil, bot_at, endQ, resL, resA, oneOrTup, abin, ibin, Nat.reduceEqDiff, if_true, if_false, Option.map_some, seal_bool, seal_int, cond_true, cond_false, Bool.false_eq_true, reduceCtorEq, decide_eq_true_eq, and_self, and_true, true_and, AV.known, AV.cells, cut, List.length_cons, List.length_nil, List.length_map, List.drop_zero, List.drop_succ_cons, List.getElem?_cons_zero, List.getElem?_cons_succ, List.getElem?_append_right, List.getElem?_map, Nat.zero_add, Nat.add_zero, Nat.reduceAdd, Nat.reduceLeDiff, Nat.le_refl, List.nil_append, List.length_append, Int.toNat_natCast, Int.natCast_nonneg, Bool.not_true, Bool.not_false, beq_iff_eq, List.take_succ_cons, List.take_zero, Nat.reduceSub, Nat.sub_self, Nat.reduceMul, Nat.mul_one, evL, ne_eq, not_false_eq_true, get_last, set_last, okE, AV.bd, AV.bdL, Bool.and_self, Bool.and_true, Bool.true_and, List.all_cons, List.all_nil, AV.one, lay, List.set_cons_zero, List.append_nil, beq_self_eq_true, List.drop_nil, evP, fillA, Bool.false_xor, Bool.true_xor, Option.map_none, List.cons_append, hdOk, List.set_cons_succ]
    refine ite_i (fun h => ?_) (fun h => ?_)
    · exact hr (by simp only [szL, h, if_true]) _ rfl
    · simp only [szL, h, if_false] at hr hx
      exact ih _ (by omega) (by omega) hr hx
theorem cl14 (fl : Bool) (M : Mem) (l : List Nd) (left : Int) (h0 : 0 ≤ left ∧ left ≤ 1048576) (hl : l.length ≤ 9223372036854775807) (hs : ∀ n ∈ l, bgN n) : Cl T fl 14 [.sl .sh (nds l), i64 left] M = some (i64 (szS left l), M) := by
  refine cl_pure (r := i64 (szS left l)) (ar := [.sl .sh (nds l), i64 left]) T_e14 T_f14 rfl (by simp only [snapL, mapO, snap_nds, snap_i]) (Nat.le_of_ble_eq_true rfl) ?_
  have hlen : (nds l).length = l.length := by simp [nds]
  have hw : IntKind.i64.wrap (left - (l.length : Int)) = left - l.length := wrap_ok (by omega)
  simp only [f14S, f14B, hlen, hw, W_start, ↓WS_seq, ↓WS_reg, ↓WS_cond, ↓WS_ret, ↓WS_skip, ↓WS_exit, ↓WS_block, ↓WS_loop, ↓WE_nil, ↓WE_sq_n, ↓WE_sq_r, ↓WE_sq_x, ↓WE_bk_n, ↓WE_bk_r, ↓WE_bk_x, ↓WE_lp_n, ↓WE_lp_r, ↓WE_lp_x, ↓WR_nil, ↓WR_cons, ↓WR_guard, WV_some, WT_bool, WT_int, WT_str, WT_nil, WT_ptr, WT_adr, WT_sl, WT_agg, WT_tup, WT_fn, WT_bsl, WT_und, WT_any, WC_bool, WG_bool, WG_und, SOp.ev, X.ev, updO_some, updO_none, ↓upd_same, ↓upd_ne, ↓reduceIte, pick, argEnv_cons, argEnv_nil, bot_at, endQ, resL, resA, oneOrTup, abin, ibin, Nat.reduceEqDiff, if_true, if_false, Option.map_some, seal_bool, seal_int, cond_true, cond_false, Bool.false_eq_true, reduceCtorEq, decide_eq_true_eq, and_self, and_true, true_and, AV.known, AV.cells, cut, List.length_cons, List.length_nil, List.length_map, List.drop_zero, List.drop_succ_cons, List.getElem?_cons_zero, List.getElem?_cons_succ, List.getElem?_append_right, List.getElem?_map, Nat.zero_add, Nat.add_zero, Nat.reduceAdd, Nat.reduceLeDiff, Nat.le_refl, List.nil_append, List.length_append, Int.toNat_natCast, Int.natCast_nonneg, Bool.not_true, Bool.not_false, beq_iff_eq, List.take_succ_cons, List.take_zero, Nat.reduceSub, Nat.sub_self, Nat.reduceMul, Nat.mul_one, evL, ne_eq, not_false_eq_true, get_last, set_last, okE, AV.bd, AV.bdL, Bool.and_self, Bool.and_true, Bool.true_and, List.all_cons, List.all_nil, AV.one, lay, List.set_cons_zero, List.append_nil, beq_self_eq_true, List.drop_nil, evP, fillA, Bool.false_xor, Bool.true_xor, Option.map_none, List.cons_append, hdOk, List.set_cons_succ]
  refine ite_i (fun h => ?_) (fun h => ?_)
  · simp only [szS, h, if_true]
  · refine lp14 l hl hs _ _ _ 0 (Nat.zero_le _) _ (by omega) (by omega) (fun hm e he => ?_) (fun e he => ?_)
    · rw [List.drop_zero] at hm
      simp only [he, W_start, ↓WS_seq, ↓WS_reg, ↓WS_cond, ↓WS_ret, ↓WS_skip, ↓WS_exit, ↓WS_block, ↓WS_loop, ↓WE_nil, ↓WE_sq_n, ↓WE_sq_r, ↓WE_sq_x, ↓WE_bk_n, ↓WE_bk_r, ↓WE_bk_x, ↓WE_lp_n, ↓WE_lp_r, ↓WE_lp_x, ↓WR_nil, ↓WR_cons, ↓WR_guard, WV_some, WT_bool, WT_int, WT_str, WT_nil, WT_ptr, WT_adr, WT_sl, WT_agg, WT_tup, WT_fn, WT_bsl, WT_und, WT_any, WC_bool, WG_bool, WG_und, SOp.ev, X.ev, updO_some, updO_none, ↓upd_same, ↓upd_ne, ↓reduceIte, pick, argEnv_cons, argEnv_nil, bot_at, endQ, resL, resA, oneOrTup, abin, ibin, Nat.reduceEqDiff, if_true, if_false, Option.map_some, seal_bool, seal_int, cond_true, cond_false, Bool.false_eq_true, reduceCtorEq, decide_eq_true_eq, and_self, and_true, true_and, AV.known, AV.cells, cut, List.length_cons, List.length_nil, List.length_map, List.drop_zero, List.drop_succ_cons, List.getElem?_cons_zero, List.getElem?_cons_succ, List.getElem?_append_right, List.getElem?_map, Nat.zero_add, Nat.add_zero, Nat.reduceAdd, Nat.reduceLeDiff, Nat.le_refl, List.nil_append, List.length_append, Int.toNat_natCast, Int.natCast_nonneg, Bool.not_true, Bool.not_false, beq_iff_eq, List.take_succ_cons, List.take_zero, Nat.reduceSub, Nat.sub_self, Nat.reduceMul, Nat.mul_one, evL, ne_eq, not_false_eq_true, get_last, set_last, okE, AV.bd, AV.bdL, Bool.and_self, Bool.and_true, Bool.true_and, List.all_cons, List.all_nil, AV.one, lay, List.set_cons_zero, List.append_nil, beq_self_eq_true, List.drop_nil, evP, fillA, Bool.false_xor, Bool.true_xor, Option.map_none, List.cons_append, hdOk, List.set_cons_succ]
      simp only [szS, h, if_false, hm]
    · rw [List.drop_zero] at he
      simp only [he, W_start, ↓WS_seq, ↓WS_reg, ↓WS_cond, ↓WS_ret, ↓WS_skip, ↓WS_exit, ↓WS_block, ↓WS_loop, ↓WE_nil, ↓WE_sq_n, ↓WE_sq_r, ↓WE_sq_x, ↓WE_bk_n, ↓WE_bk_r, ↓WE_bk_x, ↓WE_lp_n, ↓WE_lp_r, ↓WE_lp_x, ↓WR_nil, ↓WR_cons, ↓WR_guard, WV_some, WT_bool, WT_int, WT_str, WT_nil, WT_ptr, WT_adr, WT_sl, WT_agg, WT_tup, WT_fn, WT_bsl, WT_und, WT_any, WC_bool, WG_bool, WG_und, SOp.ev, X.ev, updO_some, updO_none, ↓upd_same, ↓upd_ne, ↓reduceIte, pick, argEnv_cons, argEnv_nil, bot_at, endQ, resL, resA, oneOrTup, abin, ibin, Nat.reduceEqDiff, if_true, if_false, Option.map_some, seal_bool, seal_int, cond_true, cond_false, Bool.false_eq_true, reduceCtorEq, decide_eq_true_eq, and_self, and_true, true_and, AV.known, AV.cells, cut, List.length_cons, List.length_nil, List.length_map, List.drop_zero, List.drop_succ_cons, List.getElem?_cons_zero, List.getElem?_cons_succ, List.getElem?_append_right, List.getElem?_map, Nat.zero_add, Nat.add_zero, Nat.reduceAdd, Nat.reduceLeDiff, Nat.le_refl, List.nil_append, List.length_append, Int.toNat_natCast, Int.natCast_nonneg, Bool.not_true, Bool.not_false, beq_iff_eq, List.take_succ_cons, List.take_zero, Nat.reduceSub, Nat.sub_self, Nat.reduceMul, Nat.mul_one, evL, ne_eq, not_false_eq_true, get_last, set_last, okE, AV.bd, AV.bdL, Bool.and_self, Bool.and_true, Bool.true_and, List.all_cons, List.all_nil, AV.one, lay, List.set_cons_zero, List.append_nil, beq_self_eq_true, List.drop_nil, evP, fillA, Bool.false_xor, Bool.true_xor, Option.map_none, List.cons_append, hdOk, List.set_cons_succ]
      simp only [szS, h, if_false]
theorem szL_b : ∀ (l : List Nd) (left : Int), -1 ≤ left → -1 ≤ szL left l
  | [], left, h => h
  | n :: r, left, h => by
    have := szN_b left n h
    unfold szL
    split
    · omega
    · exact szL_b r _ (by omega)
theorem cl5 (fl : Bool) (M : Mem) (a : AV) (l : List Nd) (left : Int) (h0 : 0 ≤ left ∧ left ≤ 1048576) (hl : l.length ≤ 9223372036854775807) (hs : ∀ n ∈ l, bgN n) (ha : snapN 6 M a = some (scE l)) : Cl T fl 5 [a, i64 left] M = some (i64 (szS left l), M) := by
  refine cl_pure (r := i64 (szS left l)) (ar := [scE l, i64 left]) T_e5 T_f5 rfl (by simp only [snapL, mapO, ha, snap_i]) (Nat.le_of_ble_eq_true rfl) ?_
  have h14 := fun fl M => cl14 fl M l left h0 hl hs
  simp only [f5S, f5B, scE, h14, W_start, ↓WS_seq, ↓WS_reg, ↓WS_cond, ↓WS_ret, ↓WS_skip, ↓WS_exit, ↓WS_block, ↓WS_loop, ↓WE_nil, ↓WE_sq_n, ↓WE_sq_r, ↓WE_sq_x, ↓WE_bk_n, ↓WE_bk_r, ↓WE_bk_x, ↓WE_lp_n, ↓WE_lp_r, ↓WE_lp_x, ↓WR_nil, ↓WR_cons, ↓WR_guard, WV_some, WT_bool, WT_int, WT_str, WT_nil, WT_ptr, WT_adr, WT_sl, WT_agg, WT_tup, WT_fn, WT_bsl, WT_und, WT_any, WC_bool, WG_bool, WG_und, SOp.ev, X.ev, updO_some, updO_none, ↓upd_same, ↓upd_ne, ↓reduceIte, pick, argEnv_cons, argEnv_nil, bot_at, endQ, resL, resA, oneOrTup, abin, ibin, Nat.reduceEqDiff, if_true, if_false, Option.map_some, seal_bool, seal_int, cond_true, cond_false, Bool.false_eq_true, reduceCtorEq, decide_eq_true_eq, and_self, and_true, true_and, AV.known, AV.cells, cut, List.length_cons, List.length_nil, List.length_map, List.drop_zero, List.drop_succ_cons, List.getElem?_cons_zero, List.getElem?_cons_succ, List.getElem?_append_right, List.getElem?_map, Nat.zero_add, Nat.add_zero, Nat.reduceAdd, Nat.reduceLeDiff, Nat.le_refl, List.nil_append, List.length_append, Int.toNat_natCast, Int.natCast_nonneg, Bool.not_true, Bool.not_false, beq_iff_eq, List.take_succ_cons, List.take_zero, Nat.reduceSub, Nat.sub_self, Nat.reduceMul, Nat.mul_one, evL, ne_eq, not_false_eq_true, get_last, set_last, okE, AV.bd, AV.bdL, Bool.and_self, Bool.and_true, Bool.true_and, List.all_cons, List.all_nil, AV.one, lay, List.set_cons_zero, List.append_nil, beq_self_eq_true, List.drop_nil, evP, fillA, Bool.false_xor, Bool.true_xor, Option.map_none, List.cons_append, hdOk, List.set_cons_succ]
  refine ite_i (fun h => ?_) (fun h => ?_)
  · have : -1 ≤ szS left l := by
      unfold szS; split
      · omega
      · exact szL_b _ _ (by omega)
    rw [show szS left l = -1 by omega]
  · trivial
end Go.Proofs.Ytnehpfaafgnnpaa
