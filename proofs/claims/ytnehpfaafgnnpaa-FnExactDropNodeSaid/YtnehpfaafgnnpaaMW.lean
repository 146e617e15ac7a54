/- The law's marks: what a marked scene is, and that it is found held. -/
import Derived.Test.YtnehpfaafgnnpaaMV
set_option linter.unusedSimpArgs false
set_option linter.unusedVariables false
set_option linter.unnecessarySimpa false
namespace Go.Proofs.Ytnehpfaafgnnpaa
open Go.AM Go.AM.AV

def mkI (k : Int) : Nat → List Int
  | 0 => []
  | n + 1 => k :: mkI (k + 1) n
def mkP (k : Int) : Nat → List Pt
  | 0 => []
  | n + 1 => ⟨k, k + 1⟩ :: mkP (k + 2) n
theorem mkI_len : ∀ (n : Nat) (k : Int), (mkI k n).length = n
  | 0, _ => rfl
  | n + 1, k => by simp only [mkI, List.length_cons, mkI_len n]
theorem mkP_len : ∀ (n : Nat) (k : Int), (mkP k n).length = n
  | 0, _ => rfl
  | n + 1, k => by simp only [mkP, List.length_cons, mkP_len n]
theorem mkI_get : ∀ (n : Nat) (k : Int) (i : Nat), i < n → (mkI k n)[i]? = some (k + i)
  | n + 1, k, 0, _ => by simp [mkI]
  | n + 1, k, i + 1, h => by
    rw [mkI, List.getElem?_cons_succ, mkI_get n (k + 1) i (by omega)]
    congr 1; omega
theorem mkP_get : ∀ (n : Nat) (k : Int) (i : Nat), i < n → (mkP k n)[i]? = some ⟨k + 2 * i, k + 2 * i + 1⟩
  | n + 1, k, 0, _ => by simp [mkP]
  | n + 1, k, i + 1, h => by
    rw [mkP, List.getElem?_cons_succ, mkP_get n (k + 2) i (by omega)]
    have : k + 2 + 2 * (i : Int) = k + 2 * ((i + 1 : Nat) : Int) := by omega
    rw [this]
/-- A node marked; k, b, c, d are where its runs begin. -/
def ndM (k a b c d : Int) (n : Nd) : Nd := ⟨k, k + 1, (k + 2).tmod 3 == 0, ⟨k + 3, k + 4, k + 5, k + 6, k + 7, k + 8⟩, ⟨mkI (k + 9) n.path.verbs.length, mkP a n.path.points.length⟩, b.tmod 3 == 0, b + 1, mkI (b + 2) n.dashes.length,
  ⟨c, ⟨c + 1, c + 2, c + 3, c + 4⟩, ⟨c + 5, c + 6, c + 7, c + 8⟩, ⟨c + 9, c + 10⟩, ⟨c + 11, c + 12⟩⟩, c + 13, c + 14, ⟨mkI (c + 15) n.clip.verbs.length, mkP d n.clip.points.length⟩⟩
def kA (k : Int) (n : Nd) : Int := k + 9 + n.path.verbs.length
def kB (k : Int) (n : Nd) : Int := kA k n + 2 * n.path.points.length
def kC (k : Int) (n : Nd) : Int := kB k n + 2 + n.dashes.length
def kD (k : Int) (n : Nd) : Int := kC k n + 15 + n.clip.verbs.length
def kE (k : Int) (n : Nd) : Int := kD k n + 2 * n.clip.points.length
def mkN (k : Int) (n : Nd) : Nd := ndM k (kA k n) (kB k n) (kC k n) (kD k n) n
def mkL : Int → List Nd → List Nd
  | _, [] => []
  | k, n :: r => mkN k n :: mkL (kE k n) r
def kL : Int → List Nd → Int
  | k, [] => k
  | k, n :: r => kL (kE k n) r
theorem kE_le {k : Int} {n : Nd} (hn : smN n) : k ≤ kE k n ∧ kE k n ≤ k + 16777216 := by
  have := hn.v; have := hn.p; have := hn.d; have := hn.cv; have := hn.cp
  unfold kE kD kC kB kA; omega
theorem mkN_sm {k : Int} {n : Nd} (hn : smN n) : smN (mkN k n) := by
  have := hn.v; have := hn.p; have := hn.d; have := hn.cv; have := hn.cp
  constructor <;> simp only [mkN, ndM, mkI_len, mkP_len] <;> assumption
theorem mkL_len : ∀ (l : List Nd) (k : Int), (mkL k l).length = l.length
  | [], _ => rfl
  | n :: r, k => by simp only [mkL, List.length_cons, mkL_len r]
theorem mkL_sm : ∀ (l : List Nd) (k : Int), (∀ n ∈ l, smN n) → ∀ n ∈ mkL k l, smN n
  | [], _, _, _, h => by cases h
  | x :: r, k, hs, n, h => by
    rcases List.mem_cons.1 h with rfl | h
    · exact mkN_sm (hs _ List.mem_cons_self)
    · exact mkL_sm r _ (fun m hm => hs m (List.mem_cons_of_mem _ hm)) n h

/-! ### Held -/
theorem lp52 (k : Int) (n : Nat) (hk : 0 ≤ k ∧ k ≤ 1152921504606846976) (hn : n ≤ 1048576) (st : List Fr) (M : Mem) (Q : Ex → Env → Mem → Prop) :
    ∀ i, i ≤ n → (∀ e : Env, e 1 = i64 (k + n) → WE T (.exit 0) st e M Q) →
      WL T [0, 1, 4, 5] f52L0 st (upd (upd (upd (upd bot 5 (i64 i)) 4 (i64 0)) 1 (i64 (k + i))) 0 (.sl .sh (ints (mkI k n)))) M Q := by
  have hlen : (ints (mkI k n)).length = n := by simp [ints, mkI_len]
  refine upto _ ?_ fun i hi ih hx => ?_
  · intro hx
    rw [WL_go (a := f52L0) (b := f52L0b) rfl]
    simp only [f52L0b, hlen, Int.lt_irrefl, W_start, ↓WS_seq, ↓WS_reg, ↓WS_cond, ↓WS_ret, ↓WS_skip, ↓WS_exit, ↓WS_block, ↓WS_loop, ↓WE_nil, ↓WE_sq_n, ↓WE_sq_r, ↓WE_sq_x, ↓WE_bk_n, ↓WE_bk_r, ↓WE_bk_x, ↓WE_lp_n, ↓WE_lp_r, ↓WE_lp_x, ↓WR_nil, ↓WR_cons, ↓WR_guard, WV_some, WT_bool, WT_int, WT_str, WT_nil, WT_ptr, WT_adr, WT_sl, WT_agg, WT_tup, WT_fn, WT_bsl, WT_und, WT_any, WC_bool, WG_bool, WG_und, SOp.ev, X.ev, updO_some, updO_none, ↓upd_same, ↓upd_ne, ↓reduceIte, pick, argEnv_cons, argEnv_nil, bot_at, endQ, resL, resA, oneOrTup, abin, ibin, Nat.reduceEqDiff, if_true, if_false, Option.map_some, seal_bool, seal_int, cond_true, cond_false, Bool.false_eq_true, reduceCtorEq, decide_eq_true_eq, and_self, and_true, true_and, AV.known, AV.cells, cut, List.length_cons, List.length_nil, List.length_map, List.drop_zero, List.drop_succ_cons, List.getElem?_cons_zero, List.getElem?_cons_succ, List.getElem?_append_right, List.getElem?_map, Nat.zero_add, Nat.add_zero, Nat.reduceAdd, Nat.reduceLeDiff, Nat.le_refl, List.nil_append, List.length_append, Int.toNat_natCast, Int.natCast_nonneg, Bool.not_true, Bool.not_false, beq_iff_eq, List.take_succ_cons, List.take_zero, Nat.reduceSub, Nat.sub_self, Nat.reduceMul, Nat.mul_one, evL, ne_eq, not_false_eq_true, get_last, set_last, okE, AV.bd, AV.bdL, Bool.and_self, Bool.and_true, Bool.true_and, List.all_cons, List.all_nil, AV.one, lay, List.set_cons_zero, List.append_nil, beq_self_eq_true, List.drop_nil, evP, fillA, Bool.false_xor, Bool.true_xor, Option.map_none, List.cons_append, hdOk, List.set_cons_succ]
    exact hx _ rfl
  · have hints : (ints (mkI k n))[i]? = some (i64 (k + i)) := by simp only [ints, List.getElem?_map, mkI_get n k i hi, Option.map_some]
    have hlt' : (i : Int) < n := by omega
    have hw1 : IntKind.i64.wrap ((i : Int) + 1) = i + 1 := wrap_ok (by omega)
    have hw2 : IntKind.i64.wrap (k + (i : Int) + 1) = k + (i + 1) := by rw [wrap_ok (by omega)]; omega
    rw [WL_go (a := f52L0) (b := f52L0b) rfl]
    simp only [f52L0b, hints, hlen, hlt', hw1, hw2, bne_self_eq_false, W_start, ↓WS_seq, ↓WS_reg, ↓WS_cond, ↓WS_ret, ↓WS_skip, ↓WS_exit, ↓WS_block, ↓WS_loop, ↓WE_nil, ↓WE_sq_n, ↓WE_sq_r, ↓WE_sq_x, ↓WE_bk_n, ↓WE_bk_r, ↓WE_bk_x, ↓WE_lp_n, ↓WE_lp_r, ↓WE_lp_x, ↓WR_nil, ↓WR_cons, ↓WR_guard, WV_some, WT_bool, WT_int, WT_str, WT_nil, WT_ptr, WT_adr, WT_sl, WT_agg, WT_tup, WT_fn, WT_bsl, WT_und, WT_any, WC_bool, WG_bool, WG_und, SOp.ev, X.ev, updO_some, updO_none, ↓upd_same, ↓upd_ne, ↓reduceIte, pick, argEnv_cons, argEnv_nil, bot_at, endQ, resL, resA, oneOrTup, abin, ibin, Nat.reduceEqDiff, if_true, if_false, Option.map_some, seal_bool, seal_int, cond_true, cond_false, Bool.false_eq_true, reduceCtorEq, decide_eq_true_eq, and_self, and_true, true_and, AV.known, AV.cells, cut, List.length_cons, List.length_nil, List.length_map, List.drop_zero, List.drop_succ_cons, List.getElem?_cons_zero, List.getElem?_cons_succ, List.getElem?_append_right, List.getElem?_map, Nat.zero_add, Nat.add_zero, Nat.reduceAdd, Nat.reduceLeDiff, Nat.le_refl, List.nil_append, List.length_append, Int.toNat_natCast, Int.natCast_nonneg, Bool.not_true, Bool.not_false, beq_iff_eq, List.take_succ_cons, List.take_zero, Nat.reduceSub, Nat.sub_self, Nat.reduceMul, Nat.mul_one, evL, ne_eq, not_false_eq_true, get_last, set_last, okE, AV.bd, AV.bdL, Bool.and_self, Bool.and_true, Bool.true_and, List.all_cons, List.all_nil, AV.one, lay, List.set_cons_zero, List.append_nil, beq_self_eq_true, List.drop_nil, evP, fillA, Bool.false_xor, Bool.true_xor, Option.map_none, List.cons_append, hdOk, List.set_cons_succ]
    exact ih hx
theorem cl52 (fl : Bool) (M : Mem) (k : Int) (n : Nat) (hk : 0 ≤ k ∧ k ≤ 1152921504606846976) (hn : n ≤ 1048576) : Cl T fl 52 [.sl .sh (ints (mkI k n)), i64 k] M = some (i64 (k + n), M) := by
  refine cl_pure (r := i64 (k + n)) (ar := [.sl .sh (ints (mkI k n)), i64 k]) T_e52 T_f52 rfl (by simp only [snapL, mapO, snap_ints, snap_i]) (Nat.le_of_ble_eq_true rfl) ?_
  simp only [f52S, f52B, W_start, ↓WS_seq, ↓WS_reg, ↓WS_cond, ↓WS_ret, ↓WS_skip, ↓WS_exit, ↓WS_block, ↓WS_loop, ↓WE_nil, ↓WE_sq_n, ↓WE_sq_r, ↓WE_sq_x, ↓WE_bk_n, ↓WE_bk_r, ↓WE_bk_x, ↓WE_lp_n, ↓WE_lp_r, ↓WE_lp_x, ↓WR_nil, ↓WR_cons, ↓WR_guard, WV_some, WT_bool, WT_int, WT_str, WT_nil, WT_ptr, WT_adr, WT_sl, WT_agg, WT_tup, WT_fn, WT_bsl, WT_und, WT_any, WC_bool, WG_bool, WG_und, SOp.ev, X.ev, updO_some, updO_none, ↓upd_same, ↓upd_ne, ↓reduceIte, pick, argEnv_cons, argEnv_nil, bot_at, endQ, resL, resA, oneOrTup, abin, ibin, Nat.reduceEqDiff, if_true, if_false, Option.map_some, seal_bool, seal_int, cond_true, cond_false, Bool.false_eq_true, reduceCtorEq, decide_eq_true_eq, and_self, and_true, true_and, AV.known, AV.cells, cut, List.length_cons, List.length_nil, List.length_map, List.drop_zero, List.drop_succ_cons, List.getElem?_cons_zero, List.getElem?_cons_succ, List.getElem?_append_right, List.getElem?_map, Nat.zero_add, Nat.add_zero, Nat.reduceAdd, Nat.reduceLeDiff, Nat.le_refl, List.nil_append, List.length_append, Int.toNat_natCast, Int.natCast_nonneg, Bool.not_true, Bool.not_false, beq_iff_eq, List.take_succ_cons, List.take_zero, Nat.reduceSub, Nat.sub_self, Nat.reduceMul, Nat.mul_one, evL, ne_eq, not_false_eq_true, get_last, set_last, okE, AV.bd, AV.bdL, Bool.and_self, Bool.and_true, Bool.true_and, List.all_cons, List.all_nil, AV.one, lay, List.set_cons_zero, List.append_nil, beq_self_eq_true, List.drop_nil, evP, fillA, Bool.false_xor, Bool.true_xor, Option.map_none, List.cons_append, hdOk, List.set_cons_succ]
  have h0 := lp52 k n hk hn
  have := fun st M Q => h0 st M Q 0 (Nat.zero_le _)
  simp only [Int.natCast_zero, Int.add_zero] at this
  refine this _ _ _ (fun e he => ?_)
  simp only [he, W_start, ↓WS_seq, ↓WS_reg, ↓WS_cond, ↓WS_ret, ↓WS_skip, ↓WS_exit, ↓WS_block, ↓WS_loop, ↓WE_nil, ↓WE_sq_n, ↓WE_sq_r, ↓WE_sq_x, ↓WE_bk_n, ↓WE_bk_r, ↓WE_bk_x, ↓WE_lp_n, ↓WE_lp_r, ↓WE_lp_x, ↓WR_nil, ↓WR_cons, ↓WR_guard, WV_some, WT_bool, WT_int, WT_str, WT_nil, WT_ptr, WT_adr, WT_sl, WT_agg, WT_tup, WT_fn, WT_bsl, WT_und, WT_any, WC_bool, WG_bool, WG_und, SOp.ev, X.ev, updO_some, updO_none, ↓upd_same, ↓upd_ne, ↓reduceIte, pick, argEnv_cons, argEnv_nil, bot_at, endQ, resL, resA, oneOrTup, abin, ibin, Nat.reduceEqDiff, if_true, if_false, Option.map_some, seal_bool, seal_int, cond_true, cond_false, Bool.false_eq_true, reduceCtorEq, decide_eq_true_eq, and_self, and_true, true_and, AV.known, AV.cells, cut, List.length_cons, List.length_nil, List.length_map, List.drop_zero, List.drop_succ_cons, List.getElem?_cons_zero, List.getElem?_cons_succ, List.getElem?_append_right, List.getElem?_map, Nat.zero_add, Nat.add_zero, Nat.reduceAdd, Nat.reduceLeDiff, Nat.le_refl, List.nil_append, List.length_append, Int.toNat_natCast, Int.natCast_nonneg, Bool.not_true, Bool.not_false, beq_iff_eq, List.take_succ_cons, List.take_zero, Nat.reduceSub, Nat.sub_self, Nat.reduceMul, Nat.mul_one, evL, ne_eq, not_false_eq_true, get_last, set_last, okE, AV.bd, AV.bdL, Bool.and_self, Bool.and_true, Bool.true_and, List.all_cons, List.all_nil, AV.one, lay, List.set_cons_zero, List.append_nil, beq_self_eq_true, List.drop_nil, evP, fillA, Bool.false_xor, Bool.true_xor, Option.map_none, List.cons_append, hdOk, List.set_cons_succ]
theorem lp53 (k : Int) (n : Nat) (hk : 0 ≤ k ∧ k ≤ 1152921504606846976) (hn : n ≤ 1048576) (st : List Fr) (M : Mem) (Q : Ex → Env → Mem → Prop) :
    ∀ i, i ≤ n → (∀ e : Env, e 1 = i64 (k + 2 * n) → WE T (.exit 0) st e M Q) →
      WL T [0, 1, 4, 5] f53L0 st (upd (upd (upd (upd bot 5 (i64 i)) 4 (i64 0)) 1 (i64 (k + 2 * i))) 0 (.sl .sh (pts (mkP k n)))) M Q := by
  have hlen : (pts (mkP k n)).length = n := by simp [pts, mkP_len]
  refine upto _ ?_ fun i hi ih hx => ?_
  · intro hx
    rw [WL_go (a := f53L0) (b := f53L0b) rfl]
    simp only [f53L0b, hlen, Int.lt_irrefl, W_start, ↓WS_seq, ↓WS_reg, ↓WS_cond, ↓WS_ret, ↓WS_skip, ↓WS_exit, ↓WS_block, ↓WS_loop, ↓WE_nil, ↓WE_sq_n, ↓WE_sq_r, ↓WE_sq_x, ↓WE_bk_n, ↓WE_bk_r, ↓WE_bk_x, ↓WE_lp_n, ↓WE_lp_r, ↓WE_lp_x, ↓WR_nil, ↓WR_cons, ↓WR_guard, WV_some, WT_bool, WT_int, WT_str, WT_nil, WT_ptr, WT_adr, WT_sl, WT_agg, WT_tup, WT_fn, WT_bsl, WT_und, WT_any, WC_bool, WG_bool, WG_und, SOp.ev, X.ev, updO_some, updO_none, ↓upd_same, ↓upd_ne, ↓reduceIte, pick, argEnv_cons, argEnv_nil, bot_at, endQ, resL, resA, oneOrTup, abin, ibin, Nat.reduceEqDiff, if_true, if_false, Option.map_some, seal_bool, seal_int, cond_true, cond_false, Bool.false_eq_true, reduceCtorEq, decide_eq_true_eq, and_self, and_true, true_and, AV.known, AV.cells, cut, List.length_cons, List.length_nil, List.length_map, List.drop_zero, List.drop_succ_cons, List.getElem?_cons_zero, List.getElem?_cons_succ, List.getElem?_append_right, List.getElem?_map, Nat.zero_add, Nat.add_zero, Nat.reduceAdd, Nat.reduceLeDiff, Nat.le_refl, List.nil_append, List.length_append, Int.toNat_natCast, Int.natCast_nonneg, Bool.not_true, Bool.not_false, beq_iff_eq, List.take_succ_cons, List.take_zero, Nat.reduceSub, Nat.sub_self, Nat.reduceMul, Nat.mul_one, evL, ne_eq, not_false_eq_true, get_last, set_last, okE, AV.bd, AV.bdL, Bool.and_self, Bool.and_true, Bool.true_and, List.all_cons, List.all_nil, AV.one, lay, List.set_cons_zero, List.append_nil, beq_self_eq_true, List.drop_nil, evP, fillA, Bool.false_xor, Bool.true_xor, Option.map_none, List.cons_append, hdOk, List.set_cons_succ]
    exact hx _ rfl
  · have hpts : (pts (mkP k n))[i]? = some (.agg [i64 (k + 2 * i), i64 (k + 2 * i + 1)]) := by simp only [pts, List.getElem?_map, mkP_get n k i hi, Option.map_some, ptE]
    have hlt' : (i : Int) < n := by omega
    have hw1 : IntKind.i64.wrap ((i : Int) + 1) = i + 1 := wrap_ok (by omega)
    have hw2 : IntKind.i64.wrap (k + 2 * (i : Int) + 1) = k + 2 * i + 1 := wrap_ok (by omega)
    have hw3 : IntKind.i64.wrap (k + 2 * (i : Int) + 1 + 1) = k + 2 * (i + 1) := by rw [wrap_ok (by omega)]; omega
    rw [WL_go (a := f53L0) (b := f53L0b) rfl]
    simp only [f53L0b, hpts, hlen, hlt', hw1, hw2, hw3, bne_self_eq_false, W_start, ↓WS_seq, ↓WS_reg, ↓WS_cond, ↓WS_ret, ↓WS_skip, ↓WS_exit, ↓WS_block, ↓WS_loop, ↓WE_nil, ↓WE_sq_n, ↓WE_sq_r, ↓WE_sq_x, ↓WE_bk_n, ↓WE_bk_r, ↓WE_bk_x, ↓WE_lp_n, ↓WE_lp_r, ↓WE_lp_x, ↓WR_nil, ↓WR_cons, ↓WR_guard, WV_some, WT_bool, WT_int, WT_str, WT_nil, WT_ptr, WT_adr, WT_sl, WT_agg, WT_tup, WT_fn, WT_bsl, WT_und, WT_any, WC_bool, WG_bool, WG_und, SOp.ev, X.ev, updO_some, updO_none, ↓upd_same, ↓upd_ne, ↓reduceIte, pick, argEnv_cons, argEnv_nil, bot_at, endQ, resL, resA, oneOrTup, abin, ibin, Nat.reduceEqDiff, if_true, if_false, Option.map_some, seal_bool, seal_int, cond_true, cond_false, Bool.false_eq_true, reduceCtorEq, decide_eq_true_eq, and_self, and_true, true_and, AV.known, AV.cells, cut, List.length_cons, List.length_nil, List.length_map, List.drop_zero, List.drop_succ_cons, List.getElem?_cons_zero, List.getElem?_cons_succ, List.getElem?_append_right, List.getElem?_map, Nat.zero_add, Nat.add_zero, Nat.reduceAdd, Nat.reduceLeDiff, Nat.le_refl, List.nil_append, List.length_append, Int.toNat_natCast, Int.natCast_nonneg, Bool.not_true, Bool.not_false, beq_iff_eq, List.take_succ_cons, List.take_zero, Nat.reduceSub, Nat.sub_self, Nat.reduceMul, Nat.mul_one, evL, ne_eq, not_false_eq_true, get_last, set_last, okE, AV.bd, AV.bdL, Bool.and_self, Bool.and_true, Bool.true_and, List.all_cons, List.all_nil, AV.one, lay, List.set_cons_zero, List.append_nil, beq_self_eq_true, List.drop_nil, evP, fillA, Bool.false_xor, Bool.true_xor, Option.map_none, List.cons_append, hdOk, List.set_cons_succ]
    exact ih hx
theorem cl53 (fl : Bool) (M : Mem) (k : Int) (n : Nat) (hk : 0 ≤ k ∧ k ≤ 1152921504606846976) (hn : n ≤ 1048576) : Cl T fl 53 [.sl .sh (pts (mkP k n)), i64 k] M = some (i64 (k + 2 * n), M) := by
  refine cl_pure (r := i64 (k + 2 * n)) (ar := [.sl .sh (pts (mkP k n)), i64 k]) T_e53 T_f53 rfl (by simp only [snapL, mapO, snap_pts, snap_i]) (Nat.le_of_ble_eq_true rfl) ?_
  simp only [f53S, f53B, W_start, ↓WS_seq, ↓WS_reg, ↓WS_cond, ↓WS_ret, ↓WS_skip, ↓WS_exit, ↓WS_block, ↓WS_loop, ↓WE_nil, ↓WE_sq_n, ↓WE_sq_r, ↓WE_sq_x, ↓WE_bk_n, ↓WE_bk_r, ↓WE_bk_x, ↓WE_lp_n, ↓WE_lp_r, ↓WE_lp_x, ↓WR_nil, ↓WR_cons, ↓WR_guard, WV_some, WT_bool, WT_int, WT_str, WT_nil, WT_ptr, WT_adr, WT_sl, WT_agg, WT_tup, WT_fn, WT_bsl, WT_und, WT_any, WC_bool, WG_bool, WG_und, SOp.ev, X.ev, updO_some, updO_none, ↓upd_same, ↓upd_ne, ↓reduceIte, pick, argEnv_cons, argEnv_nil, bot_at, endQ, resL, resA, oneOrTup, abin, ibin, Nat.reduceEqDiff, if_true, if_false, Option.map_some, seal_bool, seal_int, cond_true, cond_false, Bool.false_eq_true, reduceCtorEq, decide_eq_true_eq, and_self, and_true, true_and, AV.known, AV.cells, cut, List.length_cons, List.length_nil, List.length_map, List.drop_zero, List.drop_succ_cons, List.getElem?_cons_zero, List.getElem?_cons_succ, List.getElem?_append_right, List.getElem?_map, Nat.zero_add, Nat.add_zero, Nat.reduceAdd, Nat.reduceLeDiff, Nat.le_refl, List.nil_append, List.length_append, Int.toNat_natCast, Int.natCast_nonneg, Bool.not_true, Bool.not_false, beq_iff_eq, List.take_succ_cons, List.take_zero, Nat.reduceSub, Nat.sub_self, Nat.reduceMul, Nat.mul_one, evL, ne_eq, not_false_eq_true, get_last, set_last, okE, AV.bd, AV.bdL, Bool.and_self, Bool.and_true, Bool.true_and, List.all_cons, List.all_nil, AV.one, lay, List.set_cons_zero, List.append_nil, beq_self_eq_true, List.drop_nil, evP, fillA, Bool.false_xor, Bool.true_xor, Option.map_none, List.cons_append, hdOk, List.set_cons_succ]
  have h0 := lp53 k n hk hn
  have := fun st M Q => h0 st M Q 0 (Nat.zero_le _)
  simp only [Int.natCast_zero, Int.mul_zero, Int.add_zero] at this
  refine this _ _ _ (fun e he => ?_)
  simp only [he, W_start, ↓WS_seq, ↓WS_reg, ↓WS_cond, ↓WS_ret, ↓WS_skip, ↓WS_exit, ↓WS_block, ↓WS_loop, ↓WE_nil, ↓WE_sq_n, ↓WE_sq_r, ↓WE_sq_x, ↓WE_bk_n, ↓WE_bk_r, ↓WE_bk_x, ↓WE_lp_n, ↓WE_lp_r, ↓WE_lp_x, ↓WR_nil, ↓WR_cons, ↓WR_guard, WV_some, WT_bool, WT_int, WT_str, WT_nil, WT_ptr, WT_adr, WT_sl, WT_agg, WT_tup, WT_fn, WT_bsl, WT_und, WT_any, WC_bool, WG_bool, WG_und, SOp.ev, X.ev, updO_some, updO_none, ↓upd_same, ↓upd_ne, ↓reduceIte, pick, argEnv_cons, argEnv_nil, bot_at, endQ, resL, resA, oneOrTup, abin, ibin, Nat.reduceEqDiff, if_true, if_false, Option.map_some, seal_bool, seal_int, cond_true, cond_false, Bool.false_eq_true, reduceCtorEq, decide_eq_true_eq, and_self, and_true, true_and, AV.known, AV.cells, cut, List.length_cons, List.length_nil, List.length_map, List.drop_zero, List.drop_succ_cons, List.getElem?_cons_zero, List.getElem?_cons_succ, List.getElem?_append_right, List.getElem?_map, Nat.zero_add, Nat.add_zero, Nat.reduceAdd, Nat.reduceLeDiff, Nat.le_refl, List.nil_append, List.length_append, Int.toNat_natCast, Int.natCast_nonneg, Bool.not_true, Bool.not_false, beq_iff_eq, List.take_succ_cons, List.take_zero, Nat.reduceSub, Nat.sub_self, Nat.reduceMul, Nat.mul_one, evL, ne_eq, not_false_eq_true, get_last, set_last, okE, AV.bd, AV.bdL, Bool.and_self, Bool.and_true, Bool.true_and, List.all_cons, List.all_nil, AV.one, lay, List.set_cons_zero, List.append_nil, beq_self_eq_true, List.drop_nil, evP, fillA, Bool.false_xor, Bool.true_xor, Option.map_none, List.cons_append, hdOk, List.set_cons_succ]

theorem wr (k : Int) (j : Int) (hj : 0 ≤ j ∧ j ≤ 100) (hk : 0 ≤ k ∧ k ≤ 2305843009213693952) : IntKind.i64.wrap (k + j) = k + j := wrap_ok (by omega)

set_option maxRecDepth 100000 in
set_option maxHeartbeats 4000000 in
/-- One node of heldNodeS. -/
theorem node30 (m : Nd) (k a b c d e' : Int) (hk : 0 ≤ k ∧ k ≤ 2305843009213693952) (ha : 0 ≤ a ∧ a ≤ 2305843009213693952) (hb : 0 ≤ b ∧ b ≤ 2305843009213693952) (hc : 0 ≤ c ∧ c ≤ 2305843009213693952) (hd : 0 ≤ d ∧ d ≤ 2305843009213693952) (he : 0 ≤ e')
    (xs : List AV) (i len : Nat) (hlen : xs.length = len) (hlt : (i : Int) < len) (hx : xs[i]? = some (.agg (ndC (ndM k a b c d m)))) (hw0 : IntKind.i64.wrap ((i : Int) + 1) = i + 1)
    (h1 : ∀ fl M, Cl T fl 52 [.sl .sh (ints (mkI (k + 9) m.path.verbs.length)), i64 (k + 9)] M = some (i64 a, M)) (h2 : ∀ fl M, Cl T fl 53 [.sl .sh (pts (mkP a m.path.points.length)), i64 a] M = some (i64 b, M))
    (h3 : ∀ fl M, Cl T fl 52 [.sl .sh (ints (mkI (b + 2) m.dashes.length)), i64 (b + 2)] M = some (i64 c, M))
    (h4 : ∀ fl M, Cl T fl 52 [.sl .sh (ints (mkI (c + 15) m.clip.verbs.length)), i64 (c + 15)] M = some (i64 d, M)) (h5 : ∀ fl M, Cl T fl 53 [.sl .sh (pts (mkP d m.clip.points.length)), i64 d] M = some (i64 e', M))
    (st : List Fr) (M : Mem) (Q : Ex → Env → Mem → Prop)
    (hn : WL T [0, 1, 4, 5] f30L0 st (upd (upd (upd (upd bot 5 (i64 ((i : Int) + 1))) 4 (i64 0)) 1 (i64 e')) 0 (.sl .sh xs)) M Q) :
    WL T [0, 1, 4, 5] f30L0 st (upd (upd (upd (upd bot 5 (i64 i)) 4 (i64 0)) 1 (i64 k)) 0 (.sl .sh xs)) M Q := by
  have w1 := fun j hj => wr k j hj hk
  have w2 := fun j hj => wr b j hj hb
  have w3 := fun j hj => wr c j hj hc
  have na : ¬ a < 0 := by omega
  have nb : ¬ b < 0 := by omega
  have nc : ¬ c < 0 := by omega
  have nd : ¬ d < 0 := by omega
  have ne : ¬ e' < 0 := by omega
  rw [WL_go (a := f30L0) (b := f30L0b) rfl]
  cases hg : ((k + 2).tmod 3 == 0) <;> cases hv : (b.tmod 3 == 0) <;>
  simp only [f30L0b, hx, hlen, hlt, hw0, h1, h2, h3, h4, h5, ndM, ndC, ndW, hg, hv, na, nb, nc, nd, ne,
    w1 1 (by omega), w1 2 (by omega), w1 3 (by omega), w1 4 (by omega), w1 5 (by omega), w1 6 (by omega), w1 7 (by omega), w1 8 (by omega), w1 9 (by omega),
    w2 1 (by omega), w2 2 (by omega), w3 1 (by omega), w3 2 (by omega), w3 3 (by omega), w3 4 (by omega), w3 5 (by omega), w3 6 (by omega), w3 7 (by omega), w3 8 (by omega), w3 9 (by omega), w3 10 (by omega), w3 11 (by omega), w3 12 (by omega), w3 13 (by omega), w3 14 (by omega), w3 15 (by omega),
    Int.add_assoc, Int.reduceAdd, bne_self_eq_false, show ¬ ((3 : Int) = 0) by decide, W_start, ↓WS_seq, ↓WS_reg, ↓WS_cond, ↓WS_ret, ↓WS_skip, ↓WS_exit, ↓WS_block, ↓WS_loop, ↓WE_nil, ↓WE_sq_n, ↓WE_sq_r, ↓WE_sq_x, ↓WE_bk_n, ↓WE_bk_r, ↓WE_bk_x, ↓WE_lp_n, ↓WE_lp_r, ↓WE_lp_x, ↓WR_nil, ↓WR_cons, ↓WR_guard, WV_some, WT_bool, WT_int, WT_str, WT_nil, WT_ptr, WT_adr, WT_sl, WT_agg, WT_tup, WT_fn, WT_bsl, WT_und, WT_any, WC_bool, WG_bool, WG_und, SOp.ev, X.ev, updO_some, updO_none, ↓upd_same, ↓upd_ne, ↓reduceIte, pick, argEnv_cons, argEnv_nil, bot_at, endQ, resL, resA, oneOrTup, abin, ibin, Nat.reduceEqDiff, if_true, if_false, Option.map_some, seal_bool, seal_int, cond_true, cond_false, Bool.false_eq_true, reduceCtorEq, decide_eq_true_eq, and_self, and_true, true_and, AV.known, AV.cells, cut, List.length_cons, List.length_nil, List.length_map, List.drop_zero, List.drop_succ_cons, List.getElem?_cons_zero, List.getElem?_cons_succ, List.getElem?_append_right, List.getElem?_map, Nat.zero_add, Nat.add_zero, Nat.reduceAdd, Nat.reduceLeDiff, Nat.le_refl, List.nil_append, List.length_append, Int.toNat_natCast, Int.natCast_nonneg, Bool.not_true, Bool.not_false, beq_iff_eq, List.take_succ_cons, List.take_zero, Nat.reduceSub, Nat.sub_self, Nat.reduceMul, Nat.mul_one, evL, ne_eq, not_false_eq_true, get_last, set_last, okE, AV.bd, AV.bdL, Bool.and_self, Bool.and_true, Bool.true_and, List.all_cons, List.all_nil, AV.one, lay, List.set_cons_zero, List.append_nil, beq_self_eq_true, List.drop_nil, evP, fillA, Bool.false_xor, Bool.true_xor, Option.map_none, List.cons_append, hdOk, List.set_cons_succ]
  all_goals exact hn

theorem lp30 (L l : List Nd) (hs : ∀ n ∈ l, smN n) (hL : L.length = l.length) (hl : l.length ≤ 1048576) (st : List Fr) (M : Mem) (Q : Ex → Env → Mem → Prop) :
    ∀ i, i ≤ l.length → ∀ k : Int, L.drop i = mkL k (l.drop i) → 0 ≤ k → k + 16777216 * ((l.length : Int) - i) ≤ 576460752303423488 →
      (∀ e : Env, e 1 = i64 (kL k (l.drop i)) → WE T (.exit 0) st e M Q) →
      WL T [0, 1, 4, 5] f30L0 st (upd (upd (upd (upd bot 5 (i64 i)) 4 (i64 0)) 1 (i64 k)) 0 (.sl .sh (nds L))) M Q := by
  have hlen : (nds L).length = l.length := by simp [nds, hL]
  refine upto _ ?_ fun i hi ih k hk h0 h1 hx => ?_
  · intro k hk h0 h1 hx
    rw [List.drop_length] at hx
    rw [WL_go (a := f30L0) (b := f30L0b) rfl]
    simp only [f30L0b, hlen, Int.lt_irrefl, W_start, ↓WS_seq, ↓WS_reg, ↓WS_cond, ↓WS_ret, ↓WS_skip, ↓WS_exit, ↓WS_block, ↓WS_loop, ↓WE_nil, ↓WE_sq_n, ↓WE_sq_r, ↓WE_sq_x, ↓WE_bk_n, ↓WE_bk_r, ↓WE_bk_x, ↓WE_lp_n, ↓WE_lp_r, ↓WE_lp_x, ↓WR_nil, ↓WR_cons, ↓WR_guard, WV_some, WT_bool, WT_int, WT_str, WT_nil, WT_ptr, WT_adr, WT_sl, WT_agg, WT_tup, WT_fn, WT_bsl, WT_und, WT_any, WC_bool, WG_bool, WG_und, SOp.ev, X.ev, updO_some, updO_none, ↓upd_same, ↓upd_ne, ↓reduceIte, pick, argEnv_cons, argEnv_nil, bot_at, endQ, resL, resA, oneOrTup, abin, ibin, Nat.reduceEqDiff, if_true, if_false, Option.map_some, seal_bool, seal_int, cond_true, cond_false, Bool.false_eq_true, reduceCtorEq, decide_eq_true_eq, and_self, and_true, true_and, AV.known, AV.cells, cut, List.length_cons, List.length_nil, List.length_map, List.drop_zero, List.drop_succ_cons, List.getElem?_cons_zero, List.getElem?_cons_succ, List.getElem?_append_right, List.getElem?_map, Nat.zero_add, Nat.add_zero, Nat.reduceAdd, Nat.reduceLeDiff, Nat.le_refl, List.nil_append, List.length_append, Int.toNat_natCast, Int.natCast_nonneg, Bool.not_true, Bool.not_false, beq_iff_eq, List.take_succ_cons, List.take_zero, Nat.reduceSub, Nat.sub_self, Nat.reduceMul, Nat.mul_one, evL, ne_eq, not_false_eq_true, get_last, set_last, okE, AV.bd, AV.bdL, Bool.and_self, Bool.and_true, Bool.true_and, List.all_cons, List.all_nil, AV.one, lay, List.set_cons_zero, List.append_nil, beq_self_eq_true, List.drop_nil, evP, fillA, Bool.false_xor, Bool.true_xor, Option.map_none, List.cons_append, hdOk, List.set_cons_succ]
    exact hx _ rfl
  · have hn := hs _ (List.getElem_mem hi)
    rw [List.drop_eq_getElem_cons hi] at hk hx
    generalize l[i] = m at *
    simp only [mkL, kL] at hk hx
    have hg : L[i]? = some (mkN k m) := by
      have : (L.drop i)[0]? = some (mkN k m) := by rw [hk]; rfl
      rwa [List.getElem?_drop, Nat.add_zero] at this
    have hd : L.drop (i + 1) = mkL (kE k m) (l.drop (i + 1)) := by
      rw [← List.drop_drop, hk]; rfl
    have hnds : (nds L)[i]? = some (.agg (ndC (mkN k m))) := by simp only [nds, List.getElem?_map, hg, Option.map_some, ndE]
    have hE := kE_le (k := k) hn
    have b1 := hn.v; have b2 := hn.p; have b3 := hn.d; have b4 := hn.cv; have b5 := hn.cp
    have hkk : k ≤ 576460752303423488 := by omega
    have e1 : kA k m = k + 9 + m.path.verbs.length := rfl
    have e2 : kB k m = kA k m + 2 * m.path.points.length := rfl
    have e3 : kC k m = kB k m + 2 + m.dashes.length := rfl
    have e4 : kD k m = kC k m + 15 + m.clip.verbs.length := rfl
    have e5 : kE k m = kD k m + 2 * m.clip.points.length := rfl
    refine node30 m k (kA k m) (kB k m) (kC k m) (kD k m) (kE k m) (by omega) (by omega) (by omega) (by omega) (by omega) (by omega) (nds L) i l.length hlen (by omega) hnds (wrap_ok (by omega))
      (fun fl M => ?_) (fun fl M => ?_) (fun fl M => ?_) (fun fl M => ?_) (fun fl M => ?_) st M Q ?_
    · rw [cl52 _ _ _ _ (by omega) b1, e1]
    · rw [cl53 _ _ _ _ (by omega) b2, e2]
    · rw [cl52 _ _ _ _ (by omega) b3, e3]
    · rw [cl52 _ _ _ _ (by omega) b4, e4]
    · rw [cl53 _ _ _ _ (by omega) b5, e5]
    · exact ih (kE k m) hd (by omega) (by push_cast at h1 ⊢; omega) hx
theorem kL_le : ∀ (l : List Nd) (k : Int), (∀ n ∈ l, smN n) → k ≤ kL k l ∧ kL k l ≤ k + 16777216 * l.length
  | [], k, _ => by simp [kL]
  | n :: r, k, hs => by
    have h1 := kE_le (k := k) (hs n List.mem_cons_self)
    have h2 := kL_le r (kE k n) fun m hm => hs m (List.mem_cons_of_mem _ hm)
    simp only [kL, List.length_cons]
    push_cast
    omega
theorem cl30 (fl : Bool) (M : Mem) (l : List Nd) (hs : ∀ n ∈ l, smN n) (hl : l.length ≤ 1048576) : Cl T fl 30 [.sl .sh (nds (mkL 1 l)), i64 1] M = some (i64 (kL 1 l), M) := by
  refine cl_pure (r := i64 (kL 1 l)) (ar := [.sl .sh (nds (mkL 1 l)), i64 1]) T_e30 T_f30 rfl (by simp only [snapL, mapO, snap_nds, snap_i]) (Nat.le_of_ble_eq_true rfl) ?_
  simp only [f30S, f30B, W_start, ↓WS_seq, ↓WS_reg, ↓WS_cond, ↓WS_ret, ↓WS_skip, ↓WS_exit, ↓WS_block, ↓WS_loop, ↓WE_nil, ↓WE_sq_n, ↓WE_sq_r, ↓WE_sq_x, ↓WE_bk_n, ↓WE_bk_r, ↓WE_bk_x, ↓WE_lp_n, ↓WE_lp_r, ↓WE_lp_x, ↓WR_nil, ↓WR_cons, ↓WR_guard, WV_some, WT_bool, WT_int, WT_str, WT_nil, WT_ptr, WT_adr, WT_sl, WT_agg, WT_tup, WT_fn, WT_bsl, WT_und, WT_any, WC_bool, WG_bool, WG_und, SOp.ev, X.ev, updO_some, updO_none, ↓upd_same, ↓upd_ne, ↓reduceIte, pick, argEnv_cons, argEnv_nil, bot_at, endQ, resL, resA, oneOrTup, abin, ibin, Nat.reduceEqDiff, if_true, if_false, Option.map_some, seal_bool, seal_int, cond_true, cond_false, Bool.false_eq_true, reduceCtorEq, decide_eq_true_eq, and_self, and_true, true_and, AV.known, AV.cells, cut, List.length_cons, List.length_nil, List.length_map, List.drop_zero, List.drop_succ_cons, List.getElem?_cons_zero, List.getElem?_cons_succ, List.getElem?_append_right, List.getElem?_map, Nat.zero_add, Nat.add_zero, Nat.reduceAdd, Nat.reduceLeDiff, Nat.le_refl, List.nil_append, List.length_append, Int.toNat_natCast, Int.natCast_nonneg, Bool.not_true, Bool.not_false, beq_iff_eq, List.take_succ_cons, List.take_zero, Nat.reduceSub, Nat.sub_self, Nat.reduceMul, Nat.mul_one, evL, ne_eq, not_false_eq_true, get_last, set_last, okE, AV.bd, AV.bdL, Bool.and_self, Bool.and_true, Bool.true_and, List.all_cons, List.all_nil, AV.one, lay, List.set_cons_zero, List.append_nil, beq_self_eq_true, List.drop_nil, evP, fillA, Bool.false_xor, Bool.true_xor, Option.map_none, List.cons_append, hdOk, List.set_cons_succ]
  refine lp30 (mkL 1 l) l hs (mkL_len l 1) hl _ _ _ 0 (Nat.zero_le _) 1 rfl (by omega) (by omega) (fun e he => ?_)
  rw [List.drop_zero] at he
  simp only [he, W_start, ↓WS_seq, ↓WS_reg, ↓WS_cond, ↓WS_ret, ↓WS_skip, ↓WS_exit, ↓WS_block, ↓WS_loop, ↓WE_nil, ↓WE_sq_n, ↓WE_sq_r, ↓WE_sq_x, ↓WE_bk_n, ↓WE_bk_r, ↓WE_bk_x, ↓WE_lp_n, ↓WE_lp_r, ↓WE_lp_x, ↓WR_nil, ↓WR_cons, ↓WR_guard, WV_some, WT_bool, WT_int, WT_str, WT_nil, WT_ptr, WT_adr, WT_sl, WT_agg, WT_tup, WT_fn, WT_bsl, WT_und, WT_any, WC_bool, WG_bool, WG_und, SOp.ev, X.ev, updO_some, updO_none, ↓upd_same, ↓upd_ne, ↓reduceIte, pick, argEnv_cons, argEnv_nil, bot_at, endQ, resL, resA, oneOrTup, abin, ibin, Nat.reduceEqDiff, if_true, if_false, Option.map_some, seal_bool, seal_int, cond_true, cond_false, Bool.false_eq_true, reduceCtorEq, decide_eq_true_eq, and_self, and_true, true_and, AV.known, AV.cells, cut, List.length_cons, List.length_nil, List.length_map, List.drop_zero, List.drop_succ_cons, List.getElem?_cons_zero, List.getElem?_cons_succ, List.getElem?_append_right, List.getElem?_map, Nat.zero_add, Nat.add_zero, Nat.reduceAdd, Nat.reduceLeDiff, Nat.le_refl, List.nil_append, List.length_append, Int.toNat_natCast, Int.natCast_nonneg, Bool.not_true, Bool.not_false, beq_iff_eq, List.take_succ_cons, List.take_zero, Nat.reduceSub, Nat.sub_self, Nat.reduceMul, Nat.mul_one, evL, ne_eq, not_false_eq_true, get_last, set_last, okE, AV.bd, AV.bdL, Bool.and_self, Bool.and_true, Bool.true_and, List.all_cons, List.all_nil, AV.one, lay, List.set_cons_zero, List.append_nil, beq_self_eq_true, List.drop_nil, evP, fillA, Bool.false_xor, Bool.true_xor, Option.map_none, List.cons_append, hdOk, List.set_cons_succ]
/-- What is marked is found held. -/
theorem cl11 (fl : Bool) (M : Mem) (a : AV) (l : List Nd) (hs : ∀ n ∈ l, smN n) (hl : l.length ≤ 1048576) (ha : snapN 6 M a = some (scE (mkL 1 l))) : Cl T fl 11 [a, i64 1] M = some (i64 (kL 1 l), M) := by
  refine cl_pure (r := i64 (kL 1 l)) (ar := [scE (mkL 1 l), i64 1]) T_e11 T_f11 rfl (by simp only [snapL, mapO, ha, snap_i]) (Nat.le_of_ble_eq_true rfl) ?_
  have h30 := fun fl M => cl30 fl M l hs hl
  have hk : ¬ (kL 1 l < 0) := by have := kL_le l 1 hs; omega
  simp only [f11S, f11B, scE, h30, hk, W_start, ↓WS_seq, ↓WS_reg, ↓WS_cond, ↓WS_ret, ↓WS_skip, ↓WS_exit, ↓WS_block, ↓WS_loop, ↓WE_nil, ↓WE_sq_n, ↓WE_sq_r, ↓WE_sq_x, ↓WE_bk_n, ↓WE_bk_r, ↓WE_bk_x, ↓WE_lp_n, ↓WE_lp_r, ↓WE_lp_x, ↓WR_nil, ↓WR_cons, ↓WR_guard, WV_some, WT_bool, WT_int, WT_str, WT_nil, WT_ptr, WT_adr, WT_sl, WT_agg, WT_tup, WT_fn, WT_bsl, WT_und, WT_any, WC_bool, WG_bool, WG_und, SOp.ev, X.ev, updO_some, updO_none, ↓upd_same, ↓upd_ne, ↓reduceIte, pick, argEnv_cons, argEnv_nil, bot_at, endQ, resL, resA, oneOrTup, abin, ibin, Nat.reduceEqDiff, if_true, if_false, Option.map_some, seal_bool, seal_int, cond_true, cond_false, Bool.false_eq_true, reduceCtorEq, decide_eq_true_eq, and_self, and_true, true_and, AV.known, AV.cells, cut, List.length_cons, List.length_nil, List.length_map, List.drop_zero, List.drop_succ_cons, List.getElem?_cons_zero, List.getElem?_cons_succ, List.getElem?_append_right, List.getElem?_map, Nat.zero_add, Nat.add_zero, Nat.reduceAdd, Nat.reduceLeDiff, Nat.le_refl, List.nil_append, List.length_append, Int.toNat_natCast, Int.natCast_nonneg, Bool.not_true, Bool.not_false, beq_iff_eq, List.take_succ_cons, List.take_zero, Nat.reduceSub, Nat.sub_self, Nat.reduceMul, Nat.mul_one, evL, ne_eq, not_false_eq_true, get_last, set_last, okE, AV.bd, AV.bdL, Bool.and_self, Bool.and_true, Bool.true_and, List.all_cons, List.all_nil, AV.one, lay, List.set_cons_zero, List.append_nil, beq_self_eq_true, List.drop_nil, evP, fillA, Bool.false_xor, Bool.true_xor, Option.map_none, List.cons_append, hdOk, List.set_cons_succ]
end Go.Proofs.Ytnehpfaafgnnpaa
