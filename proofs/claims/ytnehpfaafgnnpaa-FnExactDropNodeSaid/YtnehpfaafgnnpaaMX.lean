/- The law's marks: writing them. -/
import Derived.Test.YtnehpfaafgnnpaaMW
set_option linter.unusedSimpArgs false
set_option linter.unusedVariables false
set_option linter.unnecessarySimpa false
namespace Go.Proofs.Ytnehpfaafgnnpaa
open Go.AM Go.AM.AV

theorem full_int {f : FuncId} {s : SFun} {args : List AV} {n : Int} {M : Mem} {B' : List (List AV)} {tk' : List (Nat × Nat)} (h1 : T.ext f = none) (h2 : T.fn f = some s) (h3 : s.mode = .full) (hn : args.length ≤ s.nt)
    (hl : B'.length = M.boxes.length) (h : W T s.body (argEnv 0 args) M (endQ s fun v M' => v = i64 n ∧ M'.boxes = B' ∧ M'.toks = tk')) : Cl T true f args M = some (i64 n, ⟨B', tk'⟩) := by
  obtain ⟨v, M', hr, rfl, rfl, rfl⟩ := runF_W hn h
  unfold Cl clD
  simp only [h1, h2, h3, if_true]
  unfold clFull
  rw [hr]
  have ht : M'.boxes.take M.boxes.length = M'.boxes := List.take_of_length_le (by omega)
  simp only [ht]
  split <;> rfl
/-- A call in the caller's own memory. -/
theorem full_ex {f : FuncId} {s : SFun} {args : List AV} {M : Mem} {P : AV → Mem → Prop} (h1 : T.ext f = none) (h2 : T.fn f = some s) (h3 : s.mode = .full) (hn : args.length ≤ s.nt) (h : W T s.body (argEnv 0 args) M (endQ s P)) :
    ∃ v M', P v M' ∧ ∃ B'', Cl T true f args M = some (v, ⟨B'', M'.toks⟩) ∧ (M.boxes.length ≤ M'.boxes.length → M.boxes.length ≤ B''.length ∧ B''.length ≤ M'.boxes.length) ∧ ∀ j, j < M.boxes.length → B''[j]? = M'.boxes[j]? := by
  obtain ⟨v, M', hr, hP⟩ := runF_W hn h
  refine ⟨v, M', hP, ?_⟩
  unfold Cl clD
  simp only [h1, h2, h3, if_true]
  unfold clFull
  rw [hr]
  by_cases hb : v.bd M.boxes.length = true ∧ (M'.boxes.take M.boxes.length).all (AV.bdL M.boxes.length) = true
  · refine ⟨M'.boxes.take M.boxes.length, if_pos hb, fun hl => by rw [List.length_take]; omega, fun j hj => by rw [List.getElem?_take, if_pos hj]⟩
  · exact ⟨M'.boxes, if_neg hb, fun hl => ⟨hl, Nat.le_refl _⟩, fun j _ => rfl⟩

theorem mkI_snoc : ∀ (n : Nat) (k : Int), mkI k (n + 1) = mkI k n ++ [k + n]
  | 0, k => by simp [mkI]
  | n + 1, k => by
    rw [mkI, mkI_snoc n (k + 1)]
    simp only [mkI, List.cons_append, List.cons.injEq, true_and, List.append_cancel_left_eq, and_true]
    omega
theorem mkP_snoc : ∀ (n : Nat) (k : Int), mkP k (n + 1) = mkP k n ++ [⟨k + 2 * n, k + 2 * n + 1⟩]
  | 0, k => by simp [mkP]
  | n + 1, k => by
    rw [mkP, mkP_snoc n (k + 2)]
    have : k + 2 + 2 * (n : Int) = k + 2 * ((n + 1 : Nat) : Int) := by omega
    simp only [mkP, List.cons_append, this]

theorem lp50 (k : Int) (l : List Int) (hk : 0 ≤ k ∧ k ≤ 1152921504606846976) (hn : l.length ≤ 1048576) (B : List (List AV)) (b : Nat) (hb : b < B.length) (tk : List (Nat × Nat)) (st : List Fr) (Q : Ex → Env → Mem → Prop) :
    ∀ i, i ≤ l.length → (∀ e : Env, e 1 = i64 (k + l.length) → WE T (.exit 0) st e ⟨B.set b (ints (mkI k l.length)), tk⟩ Q) →
      WL T [0, 1, 5] f50L0 st (upd (upd (upd bot 5 (i64 i)) 1 (i64 (k + i))) 0 (.bsl b 0 l.length 1 false)) ⟨B.set b (ints (mkI k i ++ l.drop i)), tk⟩ Q := by
  have hself : ∀ X, (B.set b X)[b]? = some X := fun X => by simp [hb]
  refine upto _ ?_ fun i hi ih hx => ?_
  · intro hx
    rw [List.drop_length, List.append_nil]
    rw [WL_go (a := f50L0) (b := f50L0b) rfl]
    simp only [f50L0b, Int.lt_irrefl, W_start, ↓WS_seq, ↓WS_reg, ↓WS_cond, ↓WS_ret, ↓WS_skip, ↓WS_exit, ↓WS_block, ↓WS_loop, ↓WE_nil, ↓WE_sq_n, ↓WE_sq_r, ↓WE_sq_x, ↓WE_bk_n, ↓WE_bk_r, ↓WE_bk_x, ↓WE_lp_n, ↓WE_lp_r, ↓WE_lp_x, ↓WR_nil, ↓WR_cons, ↓WR_guard, WV_some, WT_bool, WT_int, WT_str, WT_nil, WT_ptr, WT_adr, WT_sl, WT_agg, WT_tup, WT_fn, WT_bsl, WT_und, WT_any, WC_bool, WG_bool, WG_und, SOp.ev, X.ev, updO_some, updO_none, ↓upd_same, ↓upd_ne, ↓reduceIte, pick, argEnv_cons, argEnv_nil, bot_at, endQ, resL, resA, oneOrTup, abin, ibin, Nat.reduceEqDiff, if_true, if_false, Option.map_some, seal_bool, seal_int, cond_true, cond_false, Bool.false_eq_true, reduceCtorEq, decide_eq_true_eq, and_self, and_true, true_and, AV.known, AV.cells, cut, List.length_cons, List.length_nil, List.length_map, List.drop_zero, List.drop_succ_cons, List.getElem?_cons_zero, List.getElem?_cons_succ, List.getElem?_append_right, List.getElem?_map, Nat.zero_add, Nat.add_zero, Nat.reduceAdd, Nat.reduceLeDiff, Nat.le_refl, List.nil_append, List.length_append, Int.toNat_natCast, Int.natCast_nonneg, Bool.not_true, Bool.not_false, beq_iff_eq, List.take_succ_cons, List.take_zero, Nat.reduceSub, Nat.sub_self, Nat.reduceMul, Nat.mul_one, evL, ne_eq, not_false_eq_true, get_last, set_last, okE, AV.bd, AV.bdL, Bool.and_self, Bool.and_true, Bool.true_and, List.all_cons, List.all_nil, AV.one, lay, List.set_cons_zero, List.append_nil, beq_self_eq_true, List.drop_nil, evP, fillA, Bool.false_xor, Bool.true_xor, Option.map_none, List.cons_append, hdOk, List.set_cons_succ]
    exact hx _ rfl
  · have hlt' : (i : Int) < l.length := by omega
    have hw1 : IntKind.i64.wrap ((i : Int) + 1) = i + 1 := wrap_ok (by omega)
    have hw2 : IntKind.i64.wrap (k + (i : Int) + 1) = k + (i + 1) := by rw [wrap_ok (by omega)]; omega
    have hst : (ints (mkI k i ++ l.drop i)).take i ++ [i64 (k + i)] ++ (ints (mkI k i ++ l.drop i)).drop (i + 1) = ints (mkI k (i + 1) ++ l.drop (i + 1)) := by
      rw [List.drop_eq_getElem_cons hi, mkI_snoc]
      have hm : (ints (mkI k i)).length = i := by simp [ints, mkI_len]
      simp only [ints, List.map_append, List.map_cons] at hm ⊢
      rw [List.take_append_of_le_length (by omega), List.take_of_length_le (by omega), List.drop_append, List.drop_of_length_le (by omega), hm]
      simp [Nat.add_sub_cancel_left]
    have hle : i + 1 ≤ (ints (mkI k i ++ l.drop i)).length := by simp [ints, mkI_len]; omega
    generalize ints (mkI k i ++ l.drop i) = C at *
    generalize ints (mkI k (i + 1) ++ l.drop (i + 1)) = C' at *
    rw [WL_go (a := f50L0) (b := f50L0b) rfl]
    simp only [f50L0b, hself, List.set_set, hlt', hw1, hw2, hle, hst, W_start, ↓WS_seq, ↓WS_reg, ↓WS_cond, ↓WS_ret, ↓WS_skip, ↓WS_exit, ↓WS_block, ↓WS_loop, ↓WE_nil, ↓WE_sq_n, ↓WE_sq_r, ↓WE_sq_x, ↓WE_bk_n, ↓WE_bk_r, ↓WE_bk_x, ↓WE_lp_n, ↓WE_lp_r, ↓WE_lp_x, ↓WR_nil, ↓WR_cons, ↓WR_guard, WV_some, WT_bool, WT_int, WT_str, WT_nil, WT_ptr, WT_adr, WT_sl, WT_agg, WT_tup, WT_fn, WT_bsl, WT_und, WT_any, WC_bool, WG_bool, WG_und, SOp.ev, X.ev, updO_some, updO_none, ↓upd_same, ↓upd_ne, ↓reduceIte, pick, argEnv_cons, argEnv_nil, bot_at, endQ, resL, resA, oneOrTup, abin, ibin, Nat.reduceEqDiff, if_true, if_false, Option.map_some, seal_bool, seal_int, cond_true, cond_false, Bool.false_eq_true, reduceCtorEq, decide_eq_true_eq, and_self, and_true, true_and, AV.known, AV.cells, cut, List.length_cons, List.length_nil, List.length_map, List.drop_zero, List.drop_succ_cons, List.getElem?_cons_zero, List.getElem?_cons_succ, List.getElem?_append_right, List.getElem?_map, Nat.zero_add, Nat.add_zero, Nat.reduceAdd, Nat.reduceLeDiff, Nat.le_refl, List.nil_append, List.length_append, Int.toNat_natCast, Int.natCast_nonneg, Bool.not_true, Bool.not_false, beq_iff_eq, List.take_succ_cons, List.take_zero, Nat.reduceSub, Nat.sub_self, Nat.reduceMul, Nat.mul_one, evL, ne_eq, not_false_eq_true, get_last, set_last, okE, AV.bd, AV.bdL, Bool.and_self, Bool.and_true, Bool.true_and, List.all_cons, List.all_nil, AV.one, lay, List.set_cons_zero, List.append_nil, beq_self_eq_true, List.drop_nil, evP, fillA, Bool.false_xor, Bool.true_xor, Option.map_none, List.cons_append, hdOk, List.set_cons_succ]
    exact ih hx
theorem cl50 (v : AV) (l : List Int) (bs : List Nat) (k : Int) (hk : 0 ≤ k ∧ k ≤ 1152921504606846976) (hn : l.length ≤ 1048576) (B : List (List AV)) (tk : List (Nat × Nat)) (h : slB B v (ints l) 1 false bs) :
    ∃ B', Cl T true 50 [v, i64 k] ⟨B, tk⟩ = some (i64 (k + l.length), ⟨B', tk⟩) ∧ slB B' v (ints (mkI k l.length)) 1 false bs ∧ B'.length = B.length ∧ ∀ j, j ∉ bs → B'[j]? = B[j]? := by
  have hlen : (ints l).length = l.length := by simp [ints]
  rcases h with ⟨rfl, h0, rfl⟩ | ⟨b, rfl, hne, hb, rfl⟩
  · obtain rfl : l = [] := by
      have : l.length = 0 := by rw [← hlen, h0]; rfl
      exact List.length_eq_zero_iff.1 this
    refine ⟨B, ?_, Or.inl ⟨rfl, rfl, rfl⟩, rfl, fun j _ => rfl⟩
    refine full_int (s := f50S) T_e50 T_f50 rfl (Nat.le_of_ble_eq_true rfl) rfl ?_
    simp only [f50S, f50B, W_start, ↓WS_seq, ↓WS_reg, ↓WS_cond, ↓WS_ret, ↓WS_skip, ↓WS_exit, ↓WS_block, ↓WS_loop, ↓WE_nil, ↓WE_sq_n, ↓WE_sq_r, ↓WE_sq_x, ↓WE_bk_n, ↓WE_bk_r, ↓WE_bk_x, ↓WE_lp_n, ↓WE_lp_r, ↓WE_lp_x, ↓WR_nil, ↓WR_cons, ↓WR_guard, WV_some, WT_bool, WT_int, WT_str, WT_nil, WT_ptr, WT_adr, WT_sl, WT_agg, WT_tup, WT_fn, WT_bsl, WT_und, WT_any, WC_bool, WG_bool, WG_und, SOp.ev, X.ev, updO_some, updO_none, ↓upd_same, ↓upd_ne, ↓reduceIte, pick, argEnv_cons, argEnv_nil, bot_at, endQ, resL, resA, oneOrTup, abin, ibin, Nat.reduceEqDiff, if_true, if_false, Option.map_some, seal_bool, seal_int, cond_true, cond_false, Bool.false_eq_true, reduceCtorEq, decide_eq_true_eq, and_self, and_true, true_and, AV.known, AV.cells, cut, List.length_cons, List.length_nil, List.length_map, List.drop_zero, List.drop_succ_cons, List.getElem?_cons_zero, List.getElem?_cons_succ, List.getElem?_append_right, List.getElem?_map, Nat.zero_add, Nat.add_zero, Nat.reduceAdd, Nat.reduceLeDiff, Nat.le_refl, List.nil_append, List.length_append, Int.toNat_natCast, Int.natCast_nonneg, Bool.not_true, Bool.not_false, beq_iff_eq, List.take_succ_cons, List.take_zero, Nat.reduceSub, Nat.sub_self, Nat.reduceMul, Nat.mul_one, evL, ne_eq, not_false_eq_true, get_last, set_last, okE, AV.bd, AV.bdL, Bool.and_self, Bool.and_true, Bool.true_and, List.all_cons, List.all_nil, AV.one, lay, List.set_cons_zero, List.append_nil, beq_self_eq_true, List.drop_nil, evP, fillA, Bool.false_xor, Bool.true_xor, Option.map_none, List.cons_append, hdOk, List.set_cons_succ]
    rw [WL_go (a := f50L0) (b := f50L0b) rfl]
    simp only [f50L0b, Int.natCast_zero, Int.lt_irrefl, Int.add_zero, List.take_length, W_start, ↓WS_seq, ↓WS_reg, ↓WS_cond, ↓WS_ret, ↓WS_skip, ↓WS_exit, ↓WS_block, ↓WS_loop, ↓WE_nil, ↓WE_sq_n, ↓WE_sq_r, ↓WE_sq_x, ↓WE_bk_n, ↓WE_bk_r, ↓WE_bk_x, ↓WE_lp_n, ↓WE_lp_r, ↓WE_lp_x, ↓WR_nil, ↓WR_cons, ↓WR_guard, WV_some, WT_bool, WT_int, WT_str, WT_nil, WT_ptr, WT_adr, WT_sl, WT_agg, WT_tup, WT_fn, WT_bsl, WT_und, WT_any, WC_bool, WG_bool, WG_und, SOp.ev, X.ev, updO_some, updO_none, ↓upd_same, ↓upd_ne, ↓reduceIte, pick, argEnv_cons, argEnv_nil, bot_at, endQ, resL, resA, oneOrTup, abin, ibin, Nat.reduceEqDiff, if_true, if_false, Option.map_some, seal_bool, seal_int, cond_true, cond_false, Bool.false_eq_true, reduceCtorEq, decide_eq_true_eq, and_self, and_true, true_and, AV.known, AV.cells, cut, List.length_cons, List.length_nil, List.length_map, List.drop_zero, List.drop_succ_cons, List.getElem?_cons_zero, List.getElem?_cons_succ, List.getElem?_append_right, List.getElem?_map, Nat.zero_add, Nat.add_zero, Nat.reduceAdd, Nat.reduceLeDiff, Nat.le_refl, List.nil_append, List.length_append, Int.toNat_natCast, Int.natCast_nonneg, Bool.not_true, Bool.not_false, beq_iff_eq, List.take_succ_cons, List.take_zero, Nat.reduceSub, Nat.sub_self, Nat.reduceMul, Nat.mul_one, evL, ne_eq, not_false_eq_true, get_last, set_last, okE, AV.bd, AV.bdL, Bool.and_self, Bool.and_true, Bool.true_and, List.all_cons, List.all_nil, AV.one, lay, List.set_cons_zero, List.append_nil, beq_self_eq_true, List.drop_nil, evP, fillA, Bool.false_xor, Bool.true_xor, Option.map_none, List.cons_append, hdOk, List.set_cons_succ]
  · have hlt : b < B.length := (List.getElem?_eq_some_iff.1 hb).1
    rw [flat_ints] at hb
    have hset : B.set b (ints l) = B := by
      apply List.ext_getElem?
      intro j
      by_cases hj : j = b
      · subst hj; rw [hb]; simp [hlt]
      · rw [List.getElem?_set_ne (Ne.symm hj)]
    refine ⟨B.set b (ints (mkI k l.length)), ?_, Or.inr ⟨b, ?_, ?_, ?_, rfl⟩, by simp, fun j hj => ?_⟩
    · refine full_int (s := f50S) T_e50 T_f50 rfl (Nat.le_of_ble_eq_true rfl) (by simp) ?_
      rw [hlen]
      simp only [f50S, f50B, W_start, ↓WS_seq, ↓WS_reg, ↓WS_cond, ↓WS_ret, ↓WS_skip, ↓WS_exit, ↓WS_block, ↓WS_loop, ↓WE_nil, ↓WE_sq_n, ↓WE_sq_r, ↓WE_sq_x, ↓WE_bk_n, ↓WE_bk_r, ↓WE_bk_x, ↓WE_lp_n, ↓WE_lp_r, ↓WE_lp_x, ↓WR_nil, ↓WR_cons, ↓WR_guard, WV_some, WT_bool, WT_int, WT_str, WT_nil, WT_ptr, WT_adr, WT_sl, WT_agg, WT_tup, WT_fn, WT_bsl, WT_und, WT_any, WC_bool, WG_bool, WG_und, SOp.ev, X.ev, updO_some, updO_none, ↓upd_same, ↓upd_ne, ↓reduceIte, pick, argEnv_cons, argEnv_nil, bot_at, endQ, resL, resA, oneOrTup, abin, ibin, Nat.reduceEqDiff, if_true, if_false, Option.map_some, seal_bool, seal_int, cond_true, cond_false, Bool.false_eq_true, reduceCtorEq, decide_eq_true_eq, and_self, and_true, true_and, AV.known, AV.cells, cut, List.length_cons, List.length_nil, List.length_map, List.drop_zero, List.drop_succ_cons, List.getElem?_cons_zero, List.getElem?_cons_succ, List.getElem?_append_right, List.getElem?_map, Nat.zero_add, Nat.add_zero, Nat.reduceAdd, Nat.reduceLeDiff, Nat.le_refl, List.nil_append, List.length_append, Int.toNat_natCast, Int.natCast_nonneg, Bool.not_true, Bool.not_false, beq_iff_eq, List.take_succ_cons, List.take_zero, Nat.reduceSub, Nat.sub_self, Nat.reduceMul, Nat.mul_one, evL, ne_eq, not_false_eq_true, get_last, set_last, okE, AV.bd, AV.bdL, Bool.and_self, Bool.and_true, Bool.true_and, List.all_cons, List.all_nil, AV.one, lay, List.set_cons_zero, List.append_nil, beq_self_eq_true, List.drop_nil, evP, fillA, Bool.false_xor, Bool.true_xor, Option.map_none, List.cons_append, hdOk, List.set_cons_succ]
      have h0 := lp50 k l hk hn B b hlt tk
      have := fun st Q => h0 st Q 0 (Nat.zero_le _)
      simp only [Int.natCast_zero, Int.add_zero, mkI, List.nil_append, List.drop_zero, hset] at this
      refine this _ _ (fun e he => ?_)
      simp only [he, W_start, ↓WS_seq, ↓WS_reg, ↓WS_cond, ↓WS_ret, ↓WS_skip, ↓WS_exit, ↓WS_block, ↓WS_loop, ↓WE_nil, ↓WE_sq_n, ↓WE_sq_r, ↓WE_sq_x, ↓WE_bk_n, ↓WE_bk_r, ↓WE_bk_x, ↓WE_lp_n, ↓WE_lp_r, ↓WE_lp_x, ↓WR_nil, ↓WR_cons, ↓WR_guard, WV_some, WT_bool, WT_int, WT_str, WT_nil, WT_ptr, WT_adr, WT_sl, WT_agg, WT_tup, WT_fn, WT_bsl, WT_und, WT_any, WC_bool, WG_bool, WG_und, SOp.ev, X.ev, updO_some, updO_none, ↓upd_same, ↓upd_ne, ↓reduceIte, pick, argEnv_cons, argEnv_nil, bot_at, endQ, resL, resA, oneOrTup, abin, ibin, Nat.reduceEqDiff, if_true, if_false, Option.map_some, seal_bool, seal_int, cond_true, cond_false, Bool.false_eq_true, reduceCtorEq, decide_eq_true_eq, and_self, and_true, true_and, AV.known, AV.cells, cut, List.length_cons, List.length_nil, List.length_map, List.drop_zero, List.drop_succ_cons, List.getElem?_cons_zero, List.getElem?_cons_succ, List.getElem?_append_right, List.getElem?_map, Nat.zero_add, Nat.add_zero, Nat.reduceAdd, Nat.reduceLeDiff, Nat.le_refl, List.nil_append, List.length_append, Int.toNat_natCast, Int.natCast_nonneg, Bool.not_true, Bool.not_false, beq_iff_eq, List.take_succ_cons, List.take_zero, Nat.reduceSub, Nat.sub_self, Nat.reduceMul, Nat.mul_one, evL, ne_eq, not_false_eq_true, get_last, set_last, okE, AV.bd, AV.bdL, Bool.and_self, Bool.and_true, Bool.true_and, List.all_cons, List.all_nil, AV.one, lay, List.set_cons_zero, List.append_nil, beq_self_eq_true, List.drop_nil, evP, fillA, Bool.false_xor, Bool.true_xor, Option.map_none, List.cons_append, hdOk, List.set_cons_succ]
    · rw [hlen]; simp [ints, mkI_len]
    · intro h0
      have : (ints (mkI k l.length)).length = 0 := by rw [h0]; rfl
      rw [show (ints (mkI k l.length)).length = (ints l).length by simp [ints, mkI_len]] at this
      exact hne (List.length_eq_zero_iff.1 this)
    · rw [flat_ints]; simp [hlt]
    · rw [List.getElem?_set_ne]
      intro h; exact hj (by simp [h])

theorem flat_cons (x : AV) (r : List AV) : flat (x :: r) = x.cells ++ flat r := rfl
theorem lp51 (k : Int) (l : List Pt) (hk : 0 ≤ k ∧ k ≤ 1152921504606846976) (hn : l.length ≤ 1048576) (B : List (List AV)) (b : Nat) (hb : b < B.length) (tk : List (Nat × Nat)) (st : List Fr) (Q : Ex → Env → Mem → Prop) :
    ∀ i, i ≤ l.length → (∀ e : Env, e 1 = i64 (k + 2 * l.length) → WE T (.exit 0) st e ⟨B.set b (flat (pts (mkP k l.length))), tk⟩ Q) →
      WL T [0, 1, 5] f51L0 st (upd (upd (upd bot 5 (i64 i)) 1 (i64 (k + 2 * i))) 0 (.bsl b 0 l.length 2 true)) ⟨B.set b (flat (pts (mkP k i ++ l.drop i))), tk⟩ Q := by
  have hself : ∀ X, (B.set b X)[b]? = some X := fun X => by simp [hb]
  refine upto _ ?_ fun i hi ih hx => ?_
  · intro hx
    rw [List.drop_length, List.append_nil]
    rw [WL_go (a := f51L0) (b := f51L0b) rfl]
    simp only [f51L0b, Int.lt_irrefl, W_start, ↓WS_seq, ↓WS_reg, ↓WS_cond, ↓WS_ret, ↓WS_skip, ↓WS_exit, ↓WS_block, ↓WS_loop, ↓WE_nil, ↓WE_sq_n, ↓WE_sq_r, ↓WE_sq_x, ↓WE_bk_n, ↓WE_bk_r, ↓WE_bk_x, ↓WE_lp_n, ↓WE_lp_r, ↓WE_lp_x, ↓WR_nil, ↓WR_cons, ↓WR_guard, WV_some, WT_bool, WT_int, WT_str, WT_nil, WT_ptr, WT_adr, WT_sl, WT_agg, WT_tup, WT_fn, WT_bsl, WT_und, WT_any, WC_bool, WG_bool, WG_und, SOp.ev, X.ev, updO_some, updO_none, ↓upd_same, ↓upd_ne, ↓reduceIte, pick, argEnv_cons, argEnv_nil, bot_at, endQ, resL, resA, oneOrTup, abin, ibin, Nat.reduceEqDiff, if_true, if_false, Option.map_some, seal_bool, seal_int, cond_true, cond_false, Bool.false_eq_true, reduceCtorEq, decide_eq_true_eq, and_self, and_true, true_and, AV.known, AV.cells, cut, List.length_cons, List.length_nil, List.length_map, List.drop_zero, List.drop_succ_cons, List.getElem?_cons_zero, List.getElem?_cons_succ, List.getElem?_append_right, List.getElem?_map, Nat.zero_add, Nat.add_zero, Nat.reduceAdd, Nat.reduceLeDiff, Nat.le_refl, List.nil_append, List.length_append, Int.toNat_natCast, Int.natCast_nonneg, Bool.not_true, Bool.not_false, beq_iff_eq, List.take_succ_cons, List.take_zero, Nat.reduceSub, Nat.sub_self, Nat.reduceMul, Nat.mul_one, evL, ne_eq, not_false_eq_true, get_last, set_last, okE, AV.bd, AV.bdL, Bool.and_self, Bool.and_true, Bool.true_and, List.all_cons, List.all_nil, AV.one, lay, List.set_cons_zero, List.append_nil, beq_self_eq_true, List.drop_nil, evP, fillA, Bool.false_xor, Bool.true_xor, Option.map_none, List.cons_append, hdOk, List.set_cons_succ]
    exact hx _ rfl
  · have hlt' : (i : Int) < l.length := by omega
    have hw1 : IntKind.i64.wrap ((i : Int) + 1) = i + 1 := wrap_ok (by omega)
    have hw2 : IntKind.i64.wrap (k + 2 * (i : Int) + 1) = k + 2 * i + 1 := wrap_ok (by omega)
    have hw3 : IntKind.i64.wrap (k + 2 * (i : Int) + 1 + 1) = k + 2 * (i + 1) := by rw [wrap_ok (by omega)]; omega
    obtain ⟨A, R, hA, e0, e1⟩ : ∃ A R : List AV, A.length = i * 2 ∧ flat (pts (mkP k i ++ l.drop i)) = A ++ (i64 l[i].x :: i64 l[i].y :: R) ∧ flat (pts (mkP k (i + 1) ++ l.drop (i + 1))) = A ++ (i64 (k + 2 * i) :: i64 (k + 2 * i + 1) :: R) := by
      refine ⟨flat (pts (mkP k i)), flat (pts (l.drop (i + 1))), ?_, ?_, ?_⟩
      · rw [flat_len 2 _ (pts_cl _)]; simp [pts, mkP_len]
      · rw [List.drop_eq_getElem_cons hi]
        simp only [pts, List.map_append, List.map_cons, flat_app, flat_cons]; rfl
      · rw [mkP_snoc, List.append_assoc]
        simp only [pts, List.map_append, List.map_cons, flat_app, flat_cons]; rfl
    rw [e0]
    rw [e1] at ih
    have t0 : ∀ L : List AV, (A ++ L).take (i * 2) = A := fun L => by rw [← hA, List.take_left]
    have d0 : ∀ (x : AV) (L : List AV), (A ++ x :: L).drop (i * 2 + 1) = L := fun x L => by
      rw [show A ++ x :: L = (A ++ [x]) ++ L by simp, show i * 2 + 1 = (A ++ [x]).length by simp [hA], List.drop_left]
    have t1 : ∀ (x : AV) (L : List AV), (A ++ x :: L).take (i * 2 + 1) = A ++ [x] := fun x L => by
      rw [show A ++ x :: L = (A ++ [x]) ++ L by simp, show i * 2 + 1 = (A ++ [x]).length by simp [hA], List.take_left]
    have d1 : ∀ (x y : AV) (L : List AV), (A ++ x :: y :: L).drop (i * 2 + 1 + 1) = L := fun x y L => by
      rw [show A ++ x :: y :: L = (A ++ [x, y]) ++ L by simp, show i * 2 + 1 + 1 = (A ++ [x, y]).length by simp [hA], List.drop_left]
    have l0 : ∀ (x y : AV) (L : List AV), i * 2 + 1 ≤ (A ++ x :: y :: L).length := fun x y L => by simp [hA]
    have l1 : ∀ (x y : AV) (L : List AV), i * 2 + 1 + 1 ≤ (A ++ x :: y :: L).length := fun x y L => by simp [hA]; omega
    rw [WL_go (a := f51L0) (b := f51L0b) rfl]
    simp only [f51L0b, hself, List.set_set, hlt', hw1, hw2, hw3, ↓t0, ↓d0, ↓t1, ↓d1, ↓l0, ↓l1, List.append_assoc, W_start, ↓WS_seq, ↓WS_reg, ↓WS_cond, ↓WS_ret, ↓WS_skip, ↓WS_exit, ↓WS_block, ↓WS_loop, ↓WE_nil, ↓WE_sq_n, ↓WE_sq_r, ↓WE_sq_x, ↓WE_bk_n, ↓WE_bk_r, ↓WE_bk_x, ↓WE_lp_n, ↓WE_lp_r, ↓WE_lp_x, ↓WR_nil, ↓WR_cons, ↓WR_guard, WV_some, WT_bool, WT_int, WT_str, WT_nil, WT_ptr, WT_adr, WT_sl, WT_agg, WT_tup, WT_fn, WT_bsl, WT_und, WT_any, WC_bool, WG_bool, WG_und, SOp.ev, X.ev, updO_some, updO_none, ↓upd_same, ↓upd_ne, ↓reduceIte, pick, argEnv_cons, argEnv_nil, bot_at, endQ, resL, resA, oneOrTup, abin, ibin, Nat.reduceEqDiff, if_true, if_false, Option.map_some, seal_bool, seal_int, cond_true, cond_false, Bool.false_eq_true, reduceCtorEq, decide_eq_true_eq, and_self, and_true, true_and, AV.known, AV.cells, cut, List.length_cons, List.length_nil, List.length_map, List.drop_zero, List.drop_succ_cons, List.getElem?_cons_zero, List.getElem?_cons_succ, List.getElem?_append_right, List.getElem?_map, Nat.zero_add, Nat.add_zero, Nat.reduceAdd, Nat.reduceLeDiff, Nat.le_refl, List.nil_append, List.length_append, Int.toNat_natCast, Int.natCast_nonneg, Bool.not_true, Bool.not_false, beq_iff_eq, List.take_succ_cons, List.take_zero, Nat.reduceSub, Nat.sub_self, Nat.reduceMul, Nat.mul_one, evL, ne_eq, not_false_eq_true, get_last, set_last, okE, AV.bd, AV.bdL, Bool.and_self, Bool.and_true, Bool.true_and, List.all_cons, List.all_nil, AV.one, lay, List.set_cons_zero, List.append_nil, beq_self_eq_true, List.drop_nil, evP, fillA, Bool.false_xor, Bool.true_xor, Option.map_none, List.cons_append, hdOk, List.set_cons_succ]
    exact ih hx

theorem cl51 (v : AV) (l : List Pt) (bs : List Nat) (k : Int) (hk : 0 ≤ k ∧ k ≤ 1152921504606846976) (hn : l.length ≤ 1048576) (B : List (List AV)) (tk : List (Nat × Nat)) (h : slB B v (pts l) 2 true bs) :
    ∃ B', Cl T true 51 [v, i64 k] ⟨B, tk⟩ = some (i64 (k + 2 * l.length), ⟨B', tk⟩) ∧ slB B' v (pts (mkP k l.length)) 2 true bs ∧ B'.length = B.length ∧ ∀ j, j ∉ bs → B'[j]? = B[j]? := by
  have hlen : (pts l).length = l.length := by simp [pts]
  rcases h with ⟨rfl, h0, rfl⟩ | ⟨b, rfl, hne, hb, rfl⟩
  · obtain rfl : l = [] := by
      have : l.length = 0 := by rw [← hlen, h0]; rfl
      exact List.length_eq_zero_iff.1 this
    refine ⟨B, ?_, Or.inl ⟨rfl, rfl, rfl⟩, rfl, fun j _ => rfl⟩
    refine full_int (s := f51S) T_e51 T_f51 rfl (Nat.le_of_ble_eq_true rfl) rfl ?_
    simp only [f51S, f51B, W_start, ↓WS_seq, ↓WS_reg, ↓WS_cond, ↓WS_ret, ↓WS_skip, ↓WS_exit, ↓WS_block, ↓WS_loop, ↓WE_nil, ↓WE_sq_n, ↓WE_sq_r, ↓WE_sq_x, ↓WE_bk_n, ↓WE_bk_r, ↓WE_bk_x, ↓WE_lp_n, ↓WE_lp_r, ↓WE_lp_x, ↓WR_nil, ↓WR_cons, ↓WR_guard, WV_some, WT_bool, WT_int, WT_str, WT_nil, WT_ptr, WT_adr, WT_sl, WT_agg, WT_tup, WT_fn, WT_bsl, WT_und, WT_any, WC_bool, WG_bool, WG_und, SOp.ev, X.ev, updO_some, updO_none, ↓upd_same, ↓upd_ne, ↓reduceIte, pick, argEnv_cons, argEnv_nil, bot_at, endQ, resL, resA, oneOrTup, abin, ibin, Nat.reduceEqDiff, if_true, if_false, Option.map_some, seal_bool, seal_int, cond_true, cond_false, Bool.false_eq_true, reduceCtorEq, decide_eq_true_eq, and_self, and_true, true_and, AV.known, AV.cells, cut, List.length_cons, List.length_nil, List.length_map, List.drop_zero, List.drop_succ_cons, List.getElem?_cons_zero, List.getElem?_cons_succ, List.getElem?_append_right, List.getElem?_map, Nat.zero_add, Nat.add_zero, Nat.reduceAdd, Nat.reduceLeDiff, Nat.le_refl, List.nil_append, List.length_append, Int.toNat_natCast, Int.natCast_nonneg, Bool.not_true, Bool.not_false, beq_iff_eq, List.take_succ_cons, List.take_zero, Nat.reduceSub, Nat.sub_self, Nat.reduceMul, Nat.mul_one, evL, ne_eq, not_false_eq_true, get_last, set_last, okE, AV.bd, AV.bdL, Bool.and_self, Bool.and_true, Bool.true_and, List.all_cons, List.all_nil, AV.one, lay, List.set_cons_zero, List.append_nil, beq_self_eq_true, List.drop_nil, evP, fillA, Bool.false_xor, Bool.true_xor, Option.map_none, List.cons_append, hdOk, List.set_cons_succ]
    rw [WL_go (a := f51L0) (b := f51L0b) rfl]
    simp only [f51L0b, Int.natCast_zero, Int.lt_irrefl, Int.mul_zero, Int.add_zero, List.take_length, W_start, ↓WS_seq, ↓WS_reg, ↓WS_cond, ↓WS_ret, ↓WS_skip, ↓WS_exit, ↓WS_block, ↓WS_loop, ↓WE_nil, ↓WE_sq_n, ↓WE_sq_r, ↓WE_sq_x, ↓WE_bk_n, ↓WE_bk_r, ↓WE_bk_x, ↓WE_lp_n, ↓WE_lp_r, ↓WE_lp_x, ↓WR_nil, ↓WR_cons, ↓WR_guard, WV_some, WT_bool, WT_int, WT_str, WT_nil, WT_ptr, WT_adr, WT_sl, WT_agg, WT_tup, WT_fn, WT_bsl, WT_und, WT_any, WC_bool, WG_bool, WG_und, SOp.ev, X.ev, updO_some, updO_none, ↓upd_same, ↓upd_ne, ↓reduceIte, pick, argEnv_cons, argEnv_nil, bot_at, endQ, resL, resA, oneOrTup, abin, ibin, Nat.reduceEqDiff, if_true, if_false, Option.map_some, seal_bool, seal_int, cond_true, cond_false, Bool.false_eq_true, reduceCtorEq, decide_eq_true_eq, and_self, and_true, true_and, AV.known, AV.cells, cut, List.length_cons, List.length_nil, List.length_map, List.drop_zero, List.drop_succ_cons, List.getElem?_cons_zero, List.getElem?_cons_succ, List.getElem?_append_right, List.getElem?_map, Nat.zero_add, Nat.add_zero, Nat.reduceAdd, Nat.reduceLeDiff, Nat.le_refl, List.nil_append, List.length_append, Int.toNat_natCast, Int.natCast_nonneg, Bool.not_true, Bool.not_false, beq_iff_eq, List.take_succ_cons, List.take_zero, Nat.reduceSub, Nat.sub_self, Nat.reduceMul, Nat.mul_one, evL, ne_eq, not_false_eq_true, get_last, set_last, okE, AV.bd, AV.bdL, Bool.and_self, Bool.and_true, Bool.true_and, List.all_cons, List.all_nil, AV.one, lay, List.set_cons_zero, List.append_nil, beq_self_eq_true, List.drop_nil, evP, fillA, Bool.false_xor, Bool.true_xor, Option.map_none, List.cons_append, hdOk, List.set_cons_succ]
  · have hlt : b < B.length := (List.getElem?_eq_some_iff.1 hb).1
    have hset : B.set b (flat (pts l)) = B := by
      apply List.ext_getElem?
      intro j
      by_cases hj : j = b
      · subst hj; rw [hb]; simp [hlt]
      · rw [List.getElem?_set_ne (Ne.symm hj)]
    refine ⟨B.set b (flat (pts (mkP k l.length))), ?_, Or.inr ⟨b, ?_, ?_, ?_, rfl⟩, by simp, fun j hj => ?_⟩
    · refine full_int (s := f51S) T_e51 T_f51 rfl (Nat.le_of_ble_eq_true rfl) (by simp) ?_
      rw [hlen]
      simp only [f51S, f51B, W_start, ↓WS_seq, ↓WS_reg, ↓WS_cond, ↓WS_ret, ↓WS_skip, ↓WS_exit, ↓WS_block, ↓WS_loop, ↓WE_nil, ↓WE_sq_n, ↓WE_sq_r, ↓WE_sq_x, ↓WE_bk_n, ↓WE_bk_r, ↓WE_bk_x, ↓WE_lp_n, ↓WE_lp_r, ↓WE_lp_x, ↓WR_nil, ↓WR_cons, ↓WR_guard, WV_some, WT_bool, WT_int, WT_str, WT_nil, WT_ptr, WT_adr, WT_sl, WT_agg, WT_tup, WT_fn, WT_bsl, WT_und, WT_any, WC_bool, WG_bool, WG_und, SOp.ev, X.ev, updO_some, updO_none, ↓upd_same, ↓upd_ne, ↓reduceIte, pick, argEnv_cons, argEnv_nil, bot_at, endQ, resL, resA, oneOrTup, abin, ibin, Nat.reduceEqDiff, if_true, if_false, Option.map_some, seal_bool, seal_int, cond_true, cond_false, Bool.false_eq_true, reduceCtorEq, decide_eq_true_eq, and_self, and_true, true_and, AV.known, AV.cells, cut, List.length_cons, List.length_nil, List.length_map, List.drop_zero, List.drop_succ_cons, List.getElem?_cons_zero, List.getElem?_cons_succ, List.getElem?_append_right, List.getElem?_map, Nat.zero_add, Nat.add_zero, Nat.reduceAdd, Nat.reduceLeDiff, Nat.le_refl, List.nil_append, List.length_append, Int.toNat_natCast, Int.natCast_nonneg, Bool.not_true, Bool.not_false, beq_iff_eq, List.take_succ_cons, List.take_zero, Nat.reduceSub, Nat.sub_self, Nat.reduceMul, Nat.mul_one, evL, ne_eq, not_false_eq_true, get_last, set_last, okE, AV.bd, AV.bdL, Bool.and_self, Bool.and_true, Bool.true_and, List.all_cons, List.all_nil, AV.one, lay, List.set_cons_zero, List.append_nil, beq_self_eq_true, List.drop_nil, evP, fillA, Bool.false_xor, Bool.true_xor, Option.map_none, List.cons_append, hdOk, List.set_cons_succ]
      have h0 := lp51 k l hk hn B b hlt tk
      have := fun st Q => h0 st Q 0 (Nat.zero_le _)
      simp only [Int.natCast_zero, Int.mul_zero, Int.add_zero, mkP, List.nil_append, List.drop_zero, hset] at this
      refine this _ _ (fun e he => ?_)
      simp only [he, W_start, ↓WS_seq, ↓WS_reg, ↓WS_cond, ↓WS_ret, ↓WS_skip, ↓WS_exit, ↓WS_block, ↓WS_loop, ↓WE_nil, ↓WE_sq_n, ↓WE_sq_r, ↓WE_sq_x, ↓WE_bk_n, ↓WE_bk_r, ↓WE_bk_x, ↓WE_lp_n, ↓WE_lp_r, ↓WE_lp_x, ↓WR_nil, ↓WR_cons, ↓WR_guard, WV_some, WT_bool, WT_int, WT_str, WT_nil, WT_ptr, WT_adr, WT_sl, WT_agg, WT_tup, WT_fn, WT_bsl, WT_und, WT_any, WC_bool, WG_bool, WG_und, SOp.ev, X.ev, updO_some, updO_none, ↓upd_same, ↓upd_ne, ↓reduceIte, pick, argEnv_cons, argEnv_nil, bot_at, endQ, resL, resA, oneOrTup, abin, ibin, Nat.reduceEqDiff, if_true, if_false, Option.map_some, seal_bool, seal_int, cond_true, cond_false, Bool.false_eq_true, reduceCtorEq, decide_eq_true_eq, and_self, and_true, true_and, AV.known, AV.cells, cut, List.length_cons, List.length_nil, List.length_map, List.drop_zero, List.drop_succ_cons, List.getElem?_cons_zero, List.getElem?_cons_succ, List.getElem?_append_right, List.getElem?_map, Nat.zero_add, Nat.add_zero, Nat.reduceAdd, Nat.reduceLeDiff, Nat.le_refl, List.nil_append, List.length_append, Int.toNat_natCast, Int.natCast_nonneg, Bool.not_true, Bool.not_false, beq_iff_eq, List.take_succ_cons, List.take_zero, Nat.reduceSub, Nat.sub_self, Nat.reduceMul, Nat.mul_one, evL, ne_eq, not_false_eq_true, get_last, set_last, okE, AV.bd, AV.bdL, Bool.and_self, Bool.and_true, Bool.true_and, List.all_cons, List.all_nil, AV.one, lay, List.set_cons_zero, List.append_nil, beq_self_eq_true, List.drop_nil, evP, fillA, Bool.false_xor, Bool.true_xor, Option.map_none, List.cons_append, hdOk, List.set_cons_succ]
    · rw [hlen]; simp [pts, mkP_len]
    · intro h0
      have : (pts (mkP k l.length)).length = 0 := by rw [h0]; rfl
      rw [show (pts (mkP k l.length)).length = (pts l).length by simp [pts, mkP_len]] at this
      exact hne (List.length_eq_zero_iff.1 this)
    · simp [hlt]
    · rw [List.getElem?_set_ne]
      intro h; exact hj (by simp [h])
end Go.Proofs.Ytnehpfaafgnnpaa
