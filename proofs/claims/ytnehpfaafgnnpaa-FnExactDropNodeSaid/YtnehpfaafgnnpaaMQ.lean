/- SceneOk. -/
import Derived.Test.YtnehpfaafgnnpaaMP
set_option linter.unusedSimpArgs false
set_option linter.unusedVariables false
set_option linter.unnecessarySimpa false
namespace Go.Proofs.Ytnehpfaafgnnpaa
open Go.AM Go.AM.AV

def ndIn (l : List Nd) (i : Nat) (n : Nd) : Prop := nodeOk n ∧ posI n.id l = i ∧ (1 ≤ depthS l n.id ∧ depthS l n.id ≤ 4) ∧ parOk l n.parent
def restOk (l : List Nd) : Nat → List Nd → Prop
  | _, [] => True
  | i, n :: r => ndIn l i n ∧ restOk l (i + 1) r
def sceneOk (l : List Nd) : Prop := l.length ≤ 8 ∧ restOk l 0 l
noncomputable instance (l : List Nd) : Decidable (sceneOk l) := Classical.propDecidable _

theorem bdL_ints (k : Nat) : ∀ l : List Int, bdL k (ints l) = true
  | [] => rfl
  | x :: r => by simp only [ints, List.map_cons, bdL, bd, Bool.true_and]; exact bdL_ints k r
theorem bdL_pts (k : Nat) : ∀ l : List Pt, bdL k (pts l) = true
  | [] => rfl
  | x :: r => by simp only [pts, ptE, List.map_cons, bdL, bd, Bool.true_and]; exact bdL_pts k r
theorem bd_nd (k : Nat) (n : Nd) : (AV.agg (ndC n)).bd k = true := by
  simp only [ndC, ndW, bdL, bd, bdL_ints, bdL_pts, Bool.and_self]
theorem bdL_nd (k : Nat) (n : Nd) : bdL k (ndC n) = true := bd_nd k n
theorem all_nd (n : Nd) : (ndC n).all AV.one = true := rfl
theorem okE_nd (n : Nd) : okE 31 (.agg (ndC n)) = true := by
  simp only [okE, AV.cells, ndC, ndW, List.all_cons, List.all_nil, AV.one, Bool.and_self, List.length_cons, List.length_nil, Nat.reduceAdd, beq_self_eq_true]
theorem lay_nd {cs : List AV} (n : Nd) (h : cs.length = 31) : lay cs 0 (AV.agg (ndC n)).cells = ndC n := by
  simp only [lay, List.take_zero, List.nil_append, AV.cells, len_nd, Nat.zero_add]
  rw [← h, List.drop_length, List.append_nil]
theorem nd_0 (n : Nd) : (ndC n)[0]? = some (i64 n.id) := rfl
theorem nd_1 (n : Nd) : (ndC n)[1]? = some (i64 n.parent) := rfl
theorem nd_2 (n : Nd) : (ndC n)[2]? = some (.bool n.group) := rfl
theorem head_app {α : Type} {L : List α} {x : α} (h : L[0]? = some x) (r : List α) : (L ++ r)[0]? = some x := by
  cases L with
  | nil => cases h
  | cons a l => exact h

set_option maxRecDepth 100000 in
theorem lp15 (l : List Nd) (hl : l.length ≤ 8) (hd : ∀ n ∈ l, n.dashes.length < 4611686018427387904) (st : List Fr) (Q : Ex → Env → Mem → Prop) :
    ∀ i, i ≤ l.length → ∀ M : Mem, M.boxes[0]? = some [.sl .sh (nds l)] →
      (¬ restOk l i (l.drop i) → ∀ (e : Env) (M : Mem), e 2 = .bool false → WE T .ret st e M Q) →
      (restOk l i (l.drop i) → ∀ (e : Env) (M : Mem), WE T (.exit 0) st e M Q) →
      WL T [1, 2, 3] f15L0 st (upd (upd (upd bot 3 (i64 i)) 2 (.bool false)) 1 (.ptr 0 0)) M Q := by
  have hl' : l.length < 4611686018427387904 := by omega
  refine upto _ ?_ fun i hi ih M hM hr hx => ?_
  · intro M hM hr hx
    rw [List.drop_length] at hx
    rw [WL_go (a := f15L0) (b := f15L0b) rfl]
    simp only [f15L0b, hM, nds, Int.lt_irrefl, W_start, ↓WS_seq, ↓WS_reg, ↓WS_cond, ↓WS_ret, ↓WS_skip, ↓WS_exit, ↓WS_block, ↓WS_loop, ↓WE_nil, ↓WE_sq_n, ↓WE_sq_r, ↓WE_sq_x, ↓WE_bk_n, ↓WE_bk_r, ↓WE_bk_x, ↓WE_lp_n, ↓WE_lp_r, ↓WE_lp_x, ↓WR_nil, ↓WR_cons, ↓WR_guard, WV_some, WT_bool, WT_int, WT_str, WT_nil, WT_ptr, WT_adr, WT_sl, WT_agg, WT_tup, WT_fn, WT_bsl, WT_und, WT_any, WC_bool, WG_bool, WG_und, SOp.ev, X.ev, updO_some, updO_none, ↓upd_same, ↓upd_ne, ↓reduceIte, pick, argEnv_cons, argEnv_nil, bot_at, endQ, resL, resA, oneOrTup, abin, ibin, Nat.reduceEqDiff, if_true, if_false, Option.map_some, seal_bool, seal_int, cond_true, cond_false, Bool.false_eq_true, reduceCtorEq, decide_eq_true_eq, and_self, and_true, true_and, AV.known, AV.cells, cut, List.length_cons, List.length_nil, List.length_map, List.drop_zero, List.drop_succ_cons, List.getElem?_cons_zero, List.getElem?_cons_succ, List.getElem?_append_right, List.getElem?_map, Nat.zero_add, Nat.add_zero, Nat.reduceAdd, Nat.reduceLeDiff, Nat.le_refl, List.nil_append, List.length_append, Int.toNat_natCast, Int.natCast_nonneg, Bool.not_true, Bool.not_false, beq_iff_eq, List.take_succ_cons, List.take_zero, Nat.reduceSub, Nat.sub_self, Nat.reduceMul, Nat.mul_one, evL, ne_eq, not_false_eq_true, get_last, set_last, okE, AV.bd, AV.bdL, Bool.and_self, Bool.and_true, Bool.true_and, List.all_cons, List.all_nil, AV.one, lay, List.set_cons_zero, List.append_nil, beq_self_eq_true, List.drop_nil, evP, fillA, Bool.false_xor, Bool.true_xor, Option.map_none, List.cons_append, hdOk, List.set_cons_succ]
    exact hx trivial _ _
  · have hget : l[i]? = some l[i] := List.getElem?_eq_getElem hi
    have hnds : (nds l)[i]? = some (.agg (ndC l[i])) := by simp only [nds, List.getElem?_map, hget, Option.map_some, ndE]
    have hlen : (nds l).length = l.length := by simp [nds]
    have hlt' : (i : Int) < l.length := by omega
    have hM2 : ∀ x, (M.boxes ++ [x])[0]? = some [.sl .sh (nds l)] := fun x => head_app hM _
    rw [List.drop_eq_getElem_cons hi] at hr hx
    have hw1 : IntKind.i64.wrap ((i : Int) + 1) = i + 1 := wrap_ok (by omega)
    have h37 := fun fl M => cl37 fl M l[i] (hd _ (List.getElem_mem hi))
    generalize l[i] = n at *
    have hgo : ndIn l i n → WL T [1, 2, 3] f15L0 st (upd (upd (upd bot 3 (i64 ((i : Int) + 1))) 2 (.bool false)) 1 (.ptr 0 0)) ⟨M.boxes ++ [ndC n], M.toks⟩ Q := fun hn =>
      ih _ (hM2 _) (fun h => hr fun hh => h hh.2) (fun h => hx ⟨hn, h⟩)
    have hno : ¬ ndIn l i n → ∀ (e : Env) (M : Mem), e 2 = .bool false → WE T .ret st e M Q := fun hn => hr fun hh => hn hh.1
    rw [WL_go (a := f15L0) (b := f15L0b) rfl]
    have h17 := fun fl M id => at17 fl M l id hl'
    have h39 := fun fl M id => cl39 fl M l id hl'
    cases hp : posOf n.parent l with
    | none =>
      have h1 : posI n.parent l < 0 := by simp only [posI, hp]; omega
      simp only [f15L0b, hM, hM2, hnds, hlen, hlt', hw1, h37, h17, h39, cl38, h1, len_nd, ↓cut_nd, all_nd, bdL_nd, ↓lay_nd, nd_0, nd_1, nd_2, List.getElem?_drop, List.length_drop, W_start, ↓WS_seq, ↓WS_reg, ↓WS_cond, ↓WS_ret, ↓WS_skip, ↓WS_exit, ↓WS_block, ↓WS_loop, ↓WE_nil, ↓WE_sq_n, ↓WE_sq_r, ↓WE_sq_x, ↓WE_bk_n, ↓WE_bk_r, ↓WE_bk_x, ↓WE_lp_n, ↓WE_lp_r, ↓WE_lp_x, ↓WR_nil, ↓WR_cons, ↓WR_guard, WV_some, WT_bool, WT_int, WT_str, WT_nil, WT_ptr, WT_adr, WT_sl, WT_agg, WT_tup, WT_fn, WT_bsl, WT_und, WT_any, WC_bool, WG_bool, WG_und, SOp.ev, X.ev, updO_some, updO_none, ↓upd_same, ↓upd_ne, ↓reduceIte, pick, argEnv_cons, argEnv_nil, bot_at, endQ, resL, resA, oneOrTup, abin, ibin, Nat.reduceEqDiff, if_true, if_false, Option.map_some, seal_bool, seal_int, cond_true, cond_false, Bool.false_eq_true, reduceCtorEq, decide_eq_true_eq, and_self, and_true, true_and, AV.known, AV.cells, cut, List.length_cons, List.length_nil, List.length_map, List.drop_zero, List.drop_succ_cons, List.getElem?_cons_zero, List.getElem?_cons_succ, List.getElem?_append_right, List.getElem?_map, Nat.zero_add, Nat.add_zero, Nat.reduceAdd, Nat.reduceLeDiff, Nat.le_refl, List.nil_append, List.length_append, Int.toNat_natCast, Int.natCast_nonneg, Bool.not_true, Bool.not_false, beq_iff_eq, List.take_succ_cons, List.take_zero, Nat.reduceSub, Nat.sub_self, Nat.reduceMul, Nat.mul_one, evL, ne_eq, not_false_eq_true, get_last, set_last, okE, AV.bd, AV.bdL, Bool.and_self, Bool.and_true, Bool.true_and, List.all_cons, List.all_nil, AV.one, lay, List.set_cons_zero, List.append_nil, beq_self_eq_true, List.drop_nil, evP, fillA, Bool.false_xor, Bool.true_xor, Option.map_none, List.cons_append, hdOk, List.set_cons_succ]
      have h2 : ¬ n.parent = 0 → ¬ parOk l n.parent := fun h hh => by
        rcases hh with hh | hh
        · exact h hh
        · simp only [grpAt, hp] at hh; cases hh
      simp only [bne_iff_ne, ne_eq, ite_not]
      repeat' refine ite_i (fun _ => ?_) (fun _ => ?_)
      all_goals first
        | exact hgo ⟨by assumption, by assumption, by assumption, Or.inl (by assumption)⟩
        | (refine hno ?_ _ _ rfl
           intro ⟨a, b, c, d⟩
           first | contradiction | exact h2 (by assumption) d)
    | some j =>
      obtain ⟨hj, nd, hnd, -⟩ := posOf_lt hp
      have h1 : posI n.parent l = j := by simp only [posI, hp]
      have h2 : ¬ ((j : Int) < 0) := by omega
      have hnds' : (nds l)[j]? = some (.agg (ndC nd)) := by simp only [nds, List.getElem?_map, hnd, Option.map_some, ndE]
      have h3 : grpAt l n.parent = nd.group := by simp only [grpAt, hp, hnd]
      have h4 : ¬ n.parent = 0 → ¬ nd.group = true → ¬ parOk l n.parent := fun h h' hh => by
        rcases hh with hh | hh
        · exact h hh
        · rw [h3] at hh; exact h' hh
      simp only [f15L0b, hM, hM2, hnds, hnds', hlen, hlt', hw1, h37, h17, h39, cl38, h1, h2, len_nd, ↓cut_nd, all_nd, bdL_nd, ↓lay_nd, nd_0, nd_1, nd_2, List.getElem?_drop, List.length_drop, W_start, ↓WS_seq, ↓WS_reg, ↓WS_cond, ↓WS_ret, ↓WS_skip, ↓WS_exit, ↓WS_block, ↓WS_loop, ↓WE_nil, ↓WE_sq_n, ↓WE_sq_r, ↓WE_sq_x, ↓WE_bk_n, ↓WE_bk_r, ↓WE_bk_x, ↓WE_lp_n, ↓WE_lp_r, ↓WE_lp_x, ↓WR_nil, ↓WR_cons, ↓WR_guard, WV_some, WT_bool, WT_int, WT_str, WT_nil, WT_ptr, WT_adr, WT_sl, WT_agg, WT_tup, WT_fn, WT_bsl, WT_und, WT_any, WC_bool, WG_bool, WG_und, SOp.ev, X.ev, updO_some, updO_none, ↓upd_same, ↓upd_ne, ↓reduceIte, pick, argEnv_cons, argEnv_nil, bot_at, endQ, resL, resA, oneOrTup, abin, ibin, Nat.reduceEqDiff, if_true, if_false, Option.map_some, seal_bool, seal_int, cond_true, cond_false, Bool.false_eq_true, reduceCtorEq, decide_eq_true_eq, and_self, and_true, true_and, AV.known, AV.cells, cut, List.length_cons, List.length_nil, List.length_map, List.drop_zero, List.drop_succ_cons, List.getElem?_cons_zero, List.getElem?_cons_succ, List.getElem?_append_right, List.getElem?_map, Nat.zero_add, Nat.add_zero, Nat.reduceAdd, Nat.reduceLeDiff, Nat.le_refl, List.nil_append, List.length_append, Int.toNat_natCast, Int.natCast_nonneg, Bool.not_true, Bool.not_false, beq_iff_eq, List.take_succ_cons, List.take_zero, Nat.reduceSub, Nat.sub_self, Nat.reduceMul, Nat.mul_one, evL, ne_eq, not_false_eq_true, get_last, set_last, okE, AV.bd, AV.bdL, Bool.and_self, Bool.and_true, Bool.true_and, List.all_cons, List.all_nil, AV.one, lay, List.set_cons_zero, List.append_nil, beq_self_eq_true, List.drop_nil, evP, fillA, Bool.false_xor, Bool.true_xor, Option.map_none, List.cons_append, hdOk, List.set_cons_succ]
      simp only [bne_iff_ne, ne_eq, ite_not]
      repeat' refine ite_i (fun _ => ?_) (fun _ => ?_)
      all_goals first
        | exact hgo ⟨by assumption, by assumption, by assumption, Or.inl (by assumption)⟩
        | exact hgo ⟨by assumption, by assumption, by assumption, Or.inr (h3.trans (by assumption))⟩
        | (refine hno ?_ _ _ rfl
           intro ⟨a, b, c, d⟩
           first | contradiction | exact h4 (by assumption) (by assumption) d)

theorem cl15 (fl : Bool) (M : Mem) (l : List Nd) (hl : l.length < 4611686018427387904) (hd : ∀ n ∈ l, n.dashes.length < 4611686018427387904) : Cl T fl 15 [.agg [.sl .sh (nds l)]] M = some (.bool (decide (sceneOk l)), M) := by
  refine cl_pure (r := .bool (decide (sceneOk l))) (ar := [scE l]) T_e15 T_f15 rfl (by simp only [snapL, mapO, snap_sc]) (Nat.le_of_ble_eq_true rfl) ?_
  have hlen : (nds l).length = l.length := by simp [nds]
  by_cases h8 : l.length ≤ 8
  · have h8' : ¬ ((l.length : Int) > 8) := by omega
    simp only [f15S, f15B, scE, hlen, h8', W_start, ↓WS_seq, ↓WS_reg, ↓WS_cond, ↓WS_ret, ↓WS_skip, ↓WS_exit, ↓WS_block, ↓WS_loop, ↓WE_nil, ↓WE_sq_n, ↓WE_sq_r, ↓WE_sq_x, ↓WE_bk_n, ↓WE_bk_r, ↓WE_bk_x, ↓WE_lp_n, ↓WE_lp_r, ↓WE_lp_x, ↓WR_nil, ↓WR_cons, ↓WR_guard, WV_some, WT_bool, WT_int, WT_str, WT_nil, WT_ptr, WT_adr, WT_sl, WT_agg, WT_tup, WT_fn, WT_bsl, WT_und, WT_any, WC_bool, WG_bool, WG_und, SOp.ev, X.ev, updO_some, updO_none, ↓upd_same, ↓upd_ne, ↓reduceIte, pick, argEnv_cons, argEnv_nil, bot_at, endQ, resL, resA, oneOrTup, abin, ibin, Nat.reduceEqDiff, if_true, if_false, Option.map_some, seal_bool, seal_int, cond_true, cond_false, Bool.false_eq_true, reduceCtorEq, decide_eq_true_eq, and_self, and_true, true_and, AV.known, AV.cells, cut, List.length_cons, List.length_nil, List.length_map, List.drop_zero, List.drop_succ_cons, List.getElem?_cons_zero, List.getElem?_cons_succ, List.getElem?_append_right, List.getElem?_map, Nat.zero_add, Nat.add_zero, Nat.reduceAdd, Nat.reduceLeDiff, Nat.le_refl, List.nil_append, List.length_append, Int.toNat_natCast, Int.natCast_nonneg, Bool.not_true, Bool.not_false, beq_iff_eq, List.take_succ_cons, List.take_zero, Nat.reduceSub, Nat.sub_self, Nat.reduceMul, Nat.mul_one, evL, ne_eq, not_false_eq_true, get_last, set_last, okE, AV.bd, AV.bdL, Bool.and_self, Bool.and_true, Bool.true_and, List.all_cons, List.all_nil, AV.one, lay, List.set_cons_zero, List.append_nil, beq_self_eq_true, List.drop_nil, evP, fillA, Bool.false_xor, Bool.true_xor, Option.map_none, List.cons_append, hdOk, List.set_cons_succ]
    refine lp15 l h8 hd _ _ 0 (Nat.zero_le _) _ rfl (fun hn e M he => ?_) (fun hy e M => ?_)
    · simp only [he, W_start, ↓WS_seq, ↓WS_reg, ↓WS_cond, ↓WS_ret, ↓WS_skip, ↓WS_exit, ↓WS_block, ↓WS_loop, ↓WE_nil, ↓WE_sq_n, ↓WE_sq_r, ↓WE_sq_x, ↓WE_bk_n, ↓WE_bk_r, ↓WE_bk_x, ↓WE_lp_n, ↓WE_lp_r, ↓WE_lp_x, ↓WR_nil, ↓WR_cons, ↓WR_guard, WV_some, WT_bool, WT_int, WT_str, WT_nil, WT_ptr, WT_adr, WT_sl, WT_agg, WT_tup, WT_fn, WT_bsl, WT_und, WT_any, WC_bool, WG_bool, WG_und, SOp.ev, X.ev, updO_some, updO_none, ↓upd_same, ↓upd_ne, ↓reduceIte, pick, argEnv_cons, argEnv_nil, bot_at, endQ, resL, resA, oneOrTup, abin, ibin, Nat.reduceEqDiff, if_true, if_false, Option.map_some, seal_bool, seal_int, cond_true, cond_false, Bool.false_eq_true, reduceCtorEq, decide_eq_true_eq, and_self, and_true, true_and, AV.known, AV.cells, cut, List.length_cons, List.length_nil, List.length_map, List.drop_zero, List.drop_succ_cons, List.getElem?_cons_zero, List.getElem?_cons_succ, List.getElem?_append_right, List.getElem?_map, Nat.zero_add, Nat.add_zero, Nat.reduceAdd, Nat.reduceLeDiff, Nat.le_refl, List.nil_append, List.length_append, Int.toNat_natCast, Int.natCast_nonneg, Bool.not_true, Bool.not_false, beq_iff_eq, List.take_succ_cons, List.take_zero, Nat.reduceSub, Nat.sub_self, Nat.reduceMul, Nat.mul_one, evL, ne_eq, not_false_eq_true, get_last, set_last, okE, AV.bd, AV.bdL, Bool.and_self, Bool.and_true, Bool.true_and, List.all_cons, List.all_nil, AV.one, lay, List.set_cons_zero, List.append_nil, beq_self_eq_true, List.drop_nil, evP, fillA, Bool.false_xor, Bool.true_xor, Option.map_none, List.cons_append, hdOk, List.set_cons_succ]
      rw [decide_eq_false_iff_not.2]
      exact fun h => hn h.2
    · simp only [W_start, ↓WS_seq, ↓WS_reg, ↓WS_cond, ↓WS_ret, ↓WS_skip, ↓WS_exit, ↓WS_block, ↓WS_loop, ↓WE_nil, ↓WE_sq_n, ↓WE_sq_r, ↓WE_sq_x, ↓WE_bk_n, ↓WE_bk_r, ↓WE_bk_x, ↓WE_lp_n, ↓WE_lp_r, ↓WE_lp_x, ↓WR_nil, ↓WR_cons, ↓WR_guard, WV_some, WT_bool, WT_int, WT_str, WT_nil, WT_ptr, WT_adr, WT_sl, WT_agg, WT_tup, WT_fn, WT_bsl, WT_und, WT_any, WC_bool, WG_bool, WG_und, SOp.ev, X.ev, updO_some, updO_none, ↓upd_same, ↓upd_ne, ↓reduceIte, pick, argEnv_cons, argEnv_nil, bot_at, endQ, resL, resA, oneOrTup, abin, ibin, Nat.reduceEqDiff, if_true, if_false, Option.map_some, seal_bool, seal_int, cond_true, cond_false, Bool.false_eq_true, reduceCtorEq, decide_eq_true_eq, and_self, and_true, true_and, AV.known, AV.cells, cut, List.length_cons, List.length_nil, List.length_map, List.drop_zero, List.drop_succ_cons, List.getElem?_cons_zero, List.getElem?_cons_succ, List.getElem?_append_right, List.getElem?_map, Nat.zero_add, Nat.add_zero, Nat.reduceAdd, Nat.reduceLeDiff, Nat.le_refl, List.nil_append, List.length_append, Int.toNat_natCast, Int.natCast_nonneg, Bool.not_true, Bool.not_false, beq_iff_eq, List.take_succ_cons, List.take_zero, Nat.reduceSub, Nat.sub_self, Nat.reduceMul, Nat.mul_one, evL, ne_eq, not_false_eq_true, get_last, set_last, okE, AV.bd, AV.bdL, Bool.and_self, Bool.and_true, Bool.true_and, List.all_cons, List.all_nil, AV.one, lay, List.set_cons_zero, List.append_nil, beq_self_eq_true, List.drop_nil, evP, fillA, Bool.false_xor, Bool.true_xor, Option.map_none, List.cons_append, hdOk, List.set_cons_succ]
      rw [decide_eq_true_iff.2]
      exact ⟨h8, hy⟩
  · have h8' : ((l.length : Int) > 8) := by omega
    simp only [f15S, f15B, scE, hlen, h8', W_start, ↓WS_seq, ↓WS_reg, ↓WS_cond, ↓WS_ret, ↓WS_skip, ↓WS_exit, ↓WS_block, ↓WS_loop, ↓WE_nil, ↓WE_sq_n, ↓WE_sq_r, ↓WE_sq_x, ↓WE_bk_n, ↓WE_bk_r, ↓WE_bk_x, ↓WE_lp_n, ↓WE_lp_r, ↓WE_lp_x, ↓WR_nil, ↓WR_cons, ↓WR_guard, WV_some, WT_bool, WT_int, WT_str, WT_nil, WT_ptr, WT_adr, WT_sl, WT_agg, WT_tup, WT_fn, WT_bsl, WT_und, WT_any, WC_bool, WG_bool, WG_und, SOp.ev, X.ev, updO_some, updO_none, ↓upd_same, ↓upd_ne, ↓reduceIte, pick, argEnv_cons, argEnv_nil, bot_at, endQ, resL, resA, oneOrTup, abin, ibin, Nat.reduceEqDiff, if_true, if_false, Option.map_some, seal_bool, seal_int, cond_true, cond_false, Bool.false_eq_true, reduceCtorEq, decide_eq_true_eq, and_self, and_true, true_and, AV.known, AV.cells, cut, List.length_cons, List.length_nil, List.length_map, List.drop_zero, List.drop_succ_cons, List.getElem?_cons_zero, List.getElem?_cons_succ, List.getElem?_append_right, List.getElem?_map, Nat.zero_add, Nat.add_zero, Nat.reduceAdd, Nat.reduceLeDiff, Nat.le_refl, List.nil_append, List.length_append, Int.toNat_natCast, Int.natCast_nonneg, Bool.not_true, Bool.not_false, beq_iff_eq, List.take_succ_cons, List.take_zero, Nat.reduceSub, Nat.sub_self, Nat.reduceMul, Nat.mul_one, evL, ne_eq, not_false_eq_true, get_last, set_last, okE, AV.bd, AV.bdL, Bool.and_self, Bool.and_true, Bool.true_and, List.all_cons, List.all_nil, AV.one, lay, List.set_cons_zero, List.append_nil, beq_self_eq_true, List.drop_nil, evP, fillA, Bool.false_xor, Bool.true_xor, Option.map_none, List.cons_append, hdOk, List.set_cons_succ]
    rw [decide_eq_false_iff_not.2]
    exact fun h => h8 h.1

set_option maxRecDepth 100000 in
theorem lp22 (l : List Nd) (hl : l.length ≤ 8) (hd : ∀ n ∈ l, n.dashes.length < 4611686018427387904) (st : List Fr) (Q : Ex → Env → Mem → Prop) :
    ∀ i, i ≤ l.length → ∀ M : Mem, M.boxes[0]? = some [.sl .sh (nds l)] →
      (¬ restOk l i (l.drop i) → ∀ (e : Env) (M : Mem), e 2 = .bool false → WE T .ret st e M Q) →
      (restOk l i (l.drop i) → ∀ (e : Env) (M : Mem), WE T (.exit 0) st e M Q) →
      WL T [1, 2, 10, 11, 12] f22L0 st (upd (upd (upd (upd (upd bot 12 (i64 i)) 11 (i64 l.length)) 10 (.sl .sh (nds l))) 2 (.bool false)) 1 (.ptr 0 0)) M Q := by
  have hl' : l.length < 4611686018427387904 := by omega
  refine upto _ ?_ fun i hi ih M hM hr hx => ?_
  · intro M hM hr hx
    rw [List.drop_length] at hx
    rw [WL_go (a := f22L0) (b := f22L0b) rfl]
    simp only [f22L0b, Int.lt_irrefl, W_start, ↓WS_seq, ↓WS_reg, ↓WS_cond, ↓WS_ret, ↓WS_skip, ↓WS_exit, ↓WS_block, ↓WS_loop, ↓WE_nil, ↓WE_sq_n, ↓WE_sq_r, ↓WE_sq_x, ↓WE_bk_n, ↓WE_bk_r, ↓WE_bk_x, ↓WE_lp_n, ↓WE_lp_r, ↓WE_lp_x, ↓WR_nil, ↓WR_cons, ↓WR_guard, WV_some, WT_bool, WT_int, WT_str, WT_nil, WT_ptr, WT_adr, WT_sl, WT_agg, WT_tup, WT_fn, WT_bsl, WT_und, WT_any, WC_bool, WG_bool, WG_und, SOp.ev, X.ev, updO_some, updO_none, ↓upd_same, ↓upd_ne, ↓reduceIte, pick, argEnv_cons, argEnv_nil, bot_at, endQ, resL, resA, oneOrTup, abin, ibin, Nat.reduceEqDiff, if_true, if_false, Option.map_some, seal_bool, seal_int, cond_true, cond_false, Bool.false_eq_true, reduceCtorEq, decide_eq_true_eq, and_self, and_true, true_and, AV.known, AV.cells, cut, List.length_cons, List.length_nil, List.length_map, List.drop_zero, List.drop_succ_cons, List.getElem?_cons_zero, List.getElem?_cons_succ, List.getElem?_append_right, List.getElem?_map, Nat.zero_add, Nat.add_zero, Nat.reduceAdd, Nat.reduceLeDiff, Nat.le_refl, List.nil_append, List.length_append, Int.toNat_natCast, Int.natCast_nonneg, Bool.not_true, Bool.not_false, beq_iff_eq, List.take_succ_cons, List.take_zero, Nat.reduceSub, Nat.sub_self, Nat.reduceMul, Nat.mul_one, evL, ne_eq, not_false_eq_true, get_last, set_last, okE, AV.bd, AV.bdL, Bool.and_self, Bool.and_true, Bool.true_and, List.all_cons, List.all_nil, AV.one, lay, List.set_cons_zero, List.append_nil, beq_self_eq_true, List.drop_nil, evP, fillA, Bool.false_xor, Bool.true_xor, Option.map_none, List.cons_append, hdOk, List.set_cons_succ]
    exact hx trivial _ _
  · have hget : l[i]? = some l[i] := List.getElem?_eq_getElem hi
    have hnds : (nds l)[i]? = some (.agg (ndC l[i])) := by simp only [nds, List.getElem?_map, hget, Option.map_some, ndE]
    have hlen : (nds l).length = l.length := by simp [nds]
    have hlt' : (i : Int) < l.length := by omega
    have hM2 : ∀ x, (M.boxes ++ [x])[0]? = some [.sl .sh (nds l)] := fun x => head_app hM _
    rw [List.drop_eq_getElem_cons hi] at hr hx
    have hw1 : IntKind.i64.wrap ((i : Int) + 1) = i + 1 := wrap_ok (by omega)
    have h43 := fun fl M => cl43 fl M l[i] (hd _ (List.getElem_mem hi))
    generalize l[i] = n at *
    have hgo : ndIn l i n → WL T [1, 2, 10, 11, 12] f22L0 st (upd (upd (upd (upd (upd bot 12 (i64 ((i : Int) + 1))) 11 (i64 l.length)) 10 (.sl .sh (nds l))) 2 (.bool false)) 1 (.ptr 0 0)) ⟨M.boxes ++ [ndC n], M.toks⟩ Q := fun hn =>
      ih _ (hM2 _) (fun h => hr fun hh => h hh.2) (fun h => hx ⟨hn, h⟩)
    have hno : ¬ ndIn l i n → ∀ (e : Env) (M : Mem), e 2 = .bool false → WE T .ret st e M Q := fun hn => hr fun hh => hn hh.1
    rw [WL_go (a := f22L0) (b := f22L0b) rfl]
    have h23 := fun fl M id => cl23 fl M l id hl'
    have h35 := fun fl M id => cl35 fl M l id hl'
    have hs : snapN 6 ⟨M.boxes ++ [ndC n], M.toks⟩ (.ptr 0 0) = some (.adr [.sl .sh (nds l)]) := by
      simp only [snapN, hM2, List.drop_zero, mapO, datL_nds, erL_nds, if_true, Option.map_some]
    have h44 := fun fl => cl44 fl ⟨M.boxes ++ [ndC n], M.toks⟩ (.ptr 0 0) l n.parent hl' hs
    simp only [f22L0b, hM, hM2, hnds, hlen, hlt', hw1, h43, h23, h35, h44, cl34, len_nd, ↓cut_nd, all_nd, bdL_nd, ↓lay_nd, nd_0, nd_1, nd_2, List.getElem?_drop, List.length_drop, W_start, ↓WS_seq, ↓WS_reg, ↓WS_cond, ↓WS_ret, ↓WS_skip, ↓WS_exit, ↓WS_block, ↓WS_loop, ↓WE_nil, ↓WE_sq_n, ↓WE_sq_r, ↓WE_sq_x, ↓WE_bk_n, ↓WE_bk_r, ↓WE_bk_x, ↓WE_lp_n, ↓WE_lp_r, ↓WE_lp_x, ↓WR_nil, ↓WR_cons, ↓WR_guard, WV_some, WT_bool, WT_int, WT_str, WT_nil, WT_ptr, WT_adr, WT_sl, WT_agg, WT_tup, WT_fn, WT_bsl, WT_und, WT_any, WC_bool, WG_bool, WG_und, SOp.ev, X.ev, updO_some, updO_none, ↓upd_same, ↓upd_ne, ↓reduceIte, pick, argEnv_cons, argEnv_nil, bot_at, endQ, resL, resA, oneOrTup, abin, ibin, Nat.reduceEqDiff, if_true, if_false, Option.map_some, seal_bool, seal_int, cond_true, cond_false, Bool.false_eq_true, reduceCtorEq, decide_eq_true_eq, and_self, and_true, true_and, AV.known, AV.cells, cut, List.length_cons, List.length_nil, List.length_map, List.drop_zero, List.drop_succ_cons, List.getElem?_cons_zero, List.getElem?_cons_succ, List.getElem?_append_right, List.getElem?_map, Nat.zero_add, Nat.add_zero, Nat.reduceAdd, Nat.reduceLeDiff, Nat.le_refl, List.nil_append, List.length_append, Int.toNat_natCast, Int.natCast_nonneg, Bool.not_true, Bool.not_false, beq_iff_eq, List.take_succ_cons, List.take_zero, Nat.reduceSub, Nat.sub_self, Nat.reduceMul, Nat.mul_one, evL, ne_eq, not_false_eq_true, get_last, set_last, okE, AV.bd, AV.bdL, Bool.and_self, Bool.and_true, Bool.true_and, List.all_cons, List.all_nil, AV.one, lay, List.set_cons_zero, List.append_nil, beq_self_eq_true, List.drop_nil, evP, fillA, Bool.false_xor, Bool.true_xor, Option.map_none, List.cons_append, hdOk, List.set_cons_succ]
    simp only [bne_iff_ne, ne_eq, ite_not]
    repeat' refine ite_i (fun _ => ?_) (fun _ => ?_)
    all_goals first
      | exact hgo ⟨by assumption, by assumption, by assumption, by assumption⟩
      | (refine hno ?_ _ _ rfl
         intro ⟨a, b, c, d⟩
         contradiction)

theorem cl22 (fl : Bool) (M : Mem) (l : List Nd) (hl : l.length < 4611686018427387904) (hd : ∀ n ∈ l, n.dashes.length < 4611686018427387904) : Cl T fl 22 [.agg [.sl .sh (nds l)]] M = some (.bool (decide (sceneOk l)), M) := by
  refine cl_pure (r := .bool (decide (sceneOk l))) (ar := [scE l]) T_e22 T_f22 rfl (by simp only [snapL, mapO, snap_sc]) (Nat.le_of_ble_eq_true rfl) ?_
  have hlen : (nds l).length = l.length := by simp [nds]
  by_cases h8 : l.length ≤ 8
  · have h8' : ¬ ((l.length : Int) > 8) := by omega
    simp only [f22S, f22B, scE, hlen, h8', W_start, ↓WS_seq, ↓WS_reg, ↓WS_cond, ↓WS_ret, ↓WS_skip, ↓WS_exit, ↓WS_block, ↓WS_loop, ↓WE_nil, ↓WE_sq_n, ↓WE_sq_r, ↓WE_sq_x, ↓WE_bk_n, ↓WE_bk_r, ↓WE_bk_x, ↓WE_lp_n, ↓WE_lp_r, ↓WE_lp_x, ↓WR_nil, ↓WR_cons, ↓WR_guard, WV_some, WT_bool, WT_int, WT_str, WT_nil, WT_ptr, WT_adr, WT_sl, WT_agg, WT_tup, WT_fn, WT_bsl, WT_und, WT_any, WC_bool, WG_bool, WG_und, SOp.ev, X.ev, updO_some, updO_none, ↓upd_same, ↓upd_ne, ↓reduceIte, pick, argEnv_cons, argEnv_nil, bot_at, endQ, resL, resA, oneOrTup, abin, ibin, Nat.reduceEqDiff, if_true, if_false, Option.map_some, seal_bool, seal_int, cond_true, cond_false, Bool.false_eq_true, reduceCtorEq, decide_eq_true_eq, and_self, and_true, true_and, AV.known, AV.cells, cut, List.length_cons, List.length_nil, List.length_map, List.drop_zero, List.drop_succ_cons, List.getElem?_cons_zero, List.getElem?_cons_succ, List.getElem?_append_right, List.getElem?_map, Nat.zero_add, Nat.add_zero, Nat.reduceAdd, Nat.reduceLeDiff, Nat.le_refl, List.nil_append, List.length_append, Int.toNat_natCast, Int.natCast_nonneg, Bool.not_true, Bool.not_false, beq_iff_eq, List.take_succ_cons, List.take_zero, Nat.reduceSub, Nat.sub_self, Nat.reduceMul, Nat.mul_one, evL, ne_eq, not_false_eq_true, get_last, set_last, okE, AV.bd, AV.bdL, Bool.and_self, Bool.and_true, Bool.true_and, List.all_cons, List.all_nil, AV.one, lay, List.set_cons_zero, List.append_nil, beq_self_eq_true, List.drop_nil, evP, fillA, Bool.false_xor, Bool.true_xor, Option.map_none, List.cons_append, hdOk, List.set_cons_succ]
    refine lp22 l h8 hd _ _ 0 (Nat.zero_le _) _ rfl (fun hn e M he => ?_) (fun hy e M => ?_)
    · simp only [he, W_start, ↓WS_seq, ↓WS_reg, ↓WS_cond, ↓WS_ret, ↓WS_skip, ↓WS_exit, ↓WS_block, ↓WS_loop, ↓WE_nil, ↓WE_sq_n, ↓WE_sq_r, ↓WE_sq_x, ↓WE_bk_n, ↓WE_bk_r, ↓WE_bk_x, ↓WE_lp_n, ↓WE_lp_r, ↓WE_lp_x, ↓WR_nil, ↓WR_cons, ↓WR_guard, WV_some, WT_bool, WT_int, WT_str, WT_nil, WT_ptr, WT_adr, WT_sl, WT_agg, WT_tup, WT_fn, WT_bsl, WT_und, WT_any, WC_bool, WG_bool, WG_und, SOp.ev, X.ev, updO_some, updO_none, ↓upd_same, ↓upd_ne, ↓reduceIte, pick, argEnv_cons, argEnv_nil, bot_at, endQ, resL, resA, oneOrTup, abin, ibin, Nat.reduceEqDiff, if_true, if_false, Option.map_some, seal_bool, seal_int, cond_true, cond_false, Bool.false_eq_true, reduceCtorEq, decide_eq_true_eq, and_self, and_true, true_and, AV.known, AV.cells, cut, List.length_cons, List.length_nil, List.length_map, List.drop_zero, List.drop_succ_cons, List.getElem?_cons_zero, List.getElem?_cons_succ, List.getElem?_append_right, List.getElem?_map, Nat.zero_add, Nat.add_zero, Nat.reduceAdd, Nat.reduceLeDiff, Nat.le_refl, List.nil_append, List.length_append, Int.toNat_natCast, Int.natCast_nonneg, Bool.not_true, Bool.not_false, beq_iff_eq, List.take_succ_cons, List.take_zero, Nat.reduceSub, Nat.sub_self, Nat.reduceMul, Nat.mul_one, evL, ne_eq, not_false_eq_true, get_last, set_last, okE, AV.bd, AV.bdL, Bool.and_self, Bool.and_true, Bool.true_and, List.all_cons, List.all_nil, AV.one, lay, List.set_cons_zero, List.append_nil, beq_self_eq_true, List.drop_nil, evP, fillA, Bool.false_xor, Bool.true_xor, Option.map_none, List.cons_append, hdOk, List.set_cons_succ]
      rw [decide_eq_false_iff_not.2]
      exact fun h => hn h.2
    · simp only [W_start, ↓WS_seq, ↓WS_reg, ↓WS_cond, ↓WS_ret, ↓WS_skip, ↓WS_exit, ↓WS_block, ↓WS_loop, ↓WE_nil, ↓WE_sq_n, ↓WE_sq_r, ↓WE_sq_x, ↓WE_bk_n, ↓WE_bk_r, ↓WE_bk_x, ↓WE_lp_n, ↓WE_lp_r, ↓WE_lp_x, ↓WR_nil, ↓WR_cons, ↓WR_guard, WV_some, WT_bool, WT_int, WT_str, WT_nil, WT_ptr, WT_adr, WT_sl, WT_agg, WT_tup, WT_fn, WT_bsl, WT_und, WT_any, WC_bool, WG_bool, WG_und, SOp.ev, X.ev, updO_some, updO_none, ↓upd_same, ↓upd_ne, ↓reduceIte, pick, argEnv_cons, argEnv_nil, bot_at, endQ, resL, resA, oneOrTup, abin, ibin, Nat.reduceEqDiff, if_true, if_false, Option.map_some, seal_bool, seal_int, cond_true, cond_false, Bool.false_eq_true, reduceCtorEq, decide_eq_true_eq, and_self, and_true, true_and, AV.known, AV.cells, cut, List.length_cons, List.length_nil, List.length_map, List.drop_zero, List.drop_succ_cons, List.getElem?_cons_zero, List.getElem?_cons_succ, List.getElem?_append_right, List.getElem?_map, Nat.zero_add, Nat.add_zero, Nat.reduceAdd, Nat.reduceLeDiff, Nat.le_refl, List.nil_append, List.length_append, Int.toNat_natCast, Int.natCast_nonneg, Bool.not_true, Bool.not_false, beq_iff_eq, List.take_succ_cons, List.take_zero, Nat.reduceSub, Nat.sub_self, Nat.reduceMul, Nat.mul_one, evL, ne_eq, not_false_eq_true, get_last, set_last, okE, AV.bd, AV.bdL, Bool.and_self, Bool.and_true, Bool.true_and, List.all_cons, List.all_nil, AV.one, lay, List.set_cons_zero, List.append_nil, beq_self_eq_true, List.drop_nil, evP, fillA, Bool.false_xor, Bool.true_xor, Option.map_none, List.cons_append, hdOk, List.set_cons_succ]
      rw [decide_eq_true_iff.2]
      exact ⟨h8, hy⟩
  · have h8' : ((l.length : Int) > 8) := by omega
    simp only [f22S, f22B, scE, hlen, h8', W_start, ↓WS_seq, ↓WS_reg, ↓WS_cond, ↓WS_ret, ↓WS_skip, ↓WS_exit, ↓WS_block, ↓WS_loop, ↓WE_nil, ↓WE_sq_n, ↓WE_sq_r, ↓WE_sq_x, ↓WE_bk_n, ↓WE_bk_r, ↓WE_bk_x, ↓WE_lp_n, ↓WE_lp_r, ↓WE_lp_x, ↓WR_nil, ↓WR_cons, ↓WR_guard, WV_some, WT_bool, WT_int, WT_str, WT_nil, WT_ptr, WT_adr, WT_sl, WT_agg, WT_tup, WT_fn, WT_bsl, WT_und, WT_any, WC_bool, WG_bool, WG_und, SOp.ev, X.ev, updO_some, updO_none, ↓upd_same, ↓upd_ne, ↓reduceIte, pick, argEnv_cons, argEnv_nil, bot_at, endQ, resL, resA, oneOrTup, abin, ibin, Nat.reduceEqDiff, if_true, if_false, Option.map_some, seal_bool, seal_int, cond_true, cond_false, Bool.false_eq_true, reduceCtorEq, decide_eq_true_eq, and_self, and_true, true_and, AV.known, AV.cells, cut, List.length_cons, List.length_nil, List.length_map, List.drop_zero, List.drop_succ_cons, List.getElem?_cons_zero, List.getElem?_cons_succ, List.getElem?_append_right, List.getElem?_map, Nat.zero_add, Nat.add_zero, Nat.reduceAdd, Nat.reduceLeDiff, Nat.le_refl, List.nil_append, List.length_append, Int.toNat_natCast, Int.natCast_nonneg, Bool.not_true, Bool.not_false, beq_iff_eq, List.take_succ_cons, List.take_zero, Nat.reduceSub, Nat.sub_self, Nat.reduceMul, Nat.mul_one, evL, ne_eq, not_false_eq_true, get_last, set_last, okE, AV.bd, AV.bdL, Bool.and_self, Bool.and_true, Bool.true_and, List.all_cons, List.all_nil, AV.one, lay, List.set_cons_zero, List.append_nil, beq_self_eq_true, List.drop_nil, evP, fillA, Bool.false_xor, Bool.true_xor, Option.map_none, List.cons_append, hdOk, List.set_cons_succ]
    rw [decide_eq_false_iff_not.2]
    exact fun h => h8 h.1
end Go.Proofs.Ytnehpfaafgnnpaa
