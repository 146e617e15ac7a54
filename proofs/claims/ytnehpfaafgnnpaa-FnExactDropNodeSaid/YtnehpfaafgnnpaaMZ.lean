/- Copies of paths and nodes in the program and its reference. Copies of scenes. -/
import Derived.Test.YtnehpfaafgnnpaaMY
set_option linter.unusedSimpArgs false
set_option linter.unusedVariables false
set_option linter.unnecessarySimpa false
namespace Go.Proofs.Ytnehpfaafgnnpaa
open Go.AM Go.AM.AV

theorem ext_eq {f : FuncId} {F : List AV → Option (AV × List (Nat × Nat))} {a0 r : AV} {ts : List (Nat × Nat)} (h1 : T.ext f = some F) (h2 : F [a0] = some (r, ts)) (h3 : own r = true) (fl : Bool) (B : List (List AV)) (tk0 : List (Nat × Nat)) (a : AV) (ha : snapN 6 ⟨B, tk0⟩ a = some a0) :
    Cl T fl f [a] ⟨B, tk0⟩ = some (r.shift tk0.length, ⟨B, tk0 ++ ts⟩) := by
  unfold Cl clD
  simp only [h1, snapL, mapO, ha, h2, h3, if_true]
theorem okE_ints : ∀ l : List Int, (ints l).all (okE 1) = true
  | [] => rfl
  | x :: r => by simp only [ints, List.map_cons, List.all_cons]; rw [show okE 1 (i64 x) = true from rfl, Bool.true_and]; exact okE_ints r
theorem okE_pts : ∀ l : List Pt, (pts l).all (okE 2) = true
  | [] => rfl
  | x :: r => by simp only [pts, List.map_cons, List.all_cons]; rw [show okE 2 (ptE x) = true from rfl, Bool.true_and]; exact okE_pts r
/-- The tokens of a told slice. -/
def tkT (i : Nat) (xs : List AV) : List Nat := if xs.isEmpty then [] else [i]
theorem tk_slO (i : Nat) (xs : List AV) : slO (tk i xs) xs (tkT i xs) := by
  cases xs with
  | nil => exact ⟨.sh, rfl, Or.inl ⟨rfl, rfl⟩⟩
  | cons x r => exact ⟨.ow i, rfl, Or.inr ⟨by simp, i, rfl, rfl⟩⟩
theorem tkT_good (i a b : Nat) (xs : List AV) (h1 : a ≤ i) (h2 : i < b) : good (tkT i xs) a b := by
  cases xs with
  | nil => exact good_nil (by omega)
  | cons x r => exact good_one h1 h2
theorem tkT_good' (xs : List AV) (sz : Nat) : good (tkT 0 xs) 0 (if xs.isEmpty then [] else [(xs.length, sz)] : List (Nat × Nat)).length := by
  cases xs with
  | nil => exact good_nil (by omega)
  | cons x r => exact good_one (by omega) (by simp)
theorem good_sh {ts : List Nat} {n : Nat} (h : good ts 0 n) (tk0 tk : List (Nat × Nat)) (hn : tk.length = n) : good (ts.map (· + tk0.length)) tk0.length (tk0 ++ tk).length := by
  have := good_shift h tk0.length
  rw [List.length_append, Nat.add_comm tk0.length, hn]
  rwa [Nat.zero_add] at this

theorem own69 (l : List Int) (hl : l.length ≤ 1048576) (tk0 : List (Nat × Nat)) :
    ∃ v tk ts, slO v (ints l) ts ∧ good ts tk0.length (tk0 ++ tk).length ∧ ∀ (fl : Bool) (B : List (List AV)) (a : AV), snapN 6 ⟨B, tk0⟩ a = some (.sl .sh (ints l)) → Cl T fl 69 [a] ⟨B, tk0⟩ = some (v, ⟨B, tk0 ++ tk⟩) := by
  have hlen : (ints l).length = l.length := by simp [ints]
  have hF : cloneF 1 8 [.sl .sh (ints l)] = some (tk 0 (ints l), if (ints l).isEmpty then [] else [((ints l).length, 1)]) := by
    unfold cloneF
    exact if_pos ⟨okE_ints l, ownL_ints l, bdL_ints 0 l, by omega⟩
  have hs := tk_slO 0 (ints l)
  exact ⟨_, _, _, slO_shift tk0.length (shiftL_ints _ l) hs, good_sh (tkT_good' (ints l) 1) tk0 _ rfl, fun fl B a ha => ext_eq T_x69 hF (slO_own hs (ownL_ints l)) fl B tk0 a ha⟩
theorem own89 (l : List Pt) (hl : l.length ≤ 1048576) (tk0 : List (Nat × Nat)) :
    ∃ v tk ts, slO v (pts l) ts ∧ good ts tk0.length (tk0 ++ tk).length ∧ ∀ (fl : Bool) (B : List (List AV)) (a : AV), snapN 6 ⟨B, tk0⟩ a = some (.sl .sh (pts l)) → Cl T fl 89 [a] ⟨B, tk0⟩ = some (v, ⟨B, tk0 ++ tk⟩) := by
  have hlen : (pts l).length = l.length := by simp [pts]
  have hF : cloneF 2 16 [.sl .sh (pts l)] = some (tk 0 (pts l), if (pts l).isEmpty then [] else [((pts l).length, 2)]) := by
    unfold cloneF
    exact if_pos ⟨okE_pts l, ownL_pts l, bdL_pts 0 l, by omega⟩
  have hs := tk_slO 0 (pts l)
  exact ⟨_, _, _, slO_shift tk0.length (shiftL_pts _ l) hs, good_sh (tkT_good' (pts l) 2) tk0 _ rfl, fun fl B a ha => ext_eq T_x89 hF (slO_own hs (ownL_pts l)) fl B tk0 a ha⟩
theorem app_be {sz bytes : Nat} {xs : List AV} (tk : List (Nat × Nat)) (hy : xs.all (okE sz) = true) (hb : xs.length * bytes ≤ 140737488355328) (hz : 0 < sz) :
    ∃ tok tk' ts, slO (.sl tok xs) xs ts ∧ good ts tk.length (tk ++ tk').length ∧ ∀ B, appA sz bytes .nl [] xs ⟨B, tk⟩ = some (.sl tok xs, ⟨B, tk ++ tk'⟩) := by
  have hc : xs.all (okE sz) = true ∧ (([] : List AV).length + xs.length) * bytes ≤ 140737488355328 ∧ 0 < sz := ⟨hy, by simpa using hb, hz⟩
  cases xs with
  | nil => exact ⟨.nl, [], [], ⟨.nl, rfl, Or.inl ⟨rfl, rfl⟩⟩, good_nil (by simp), fun B => by unfold appA; rw [if_pos hc, List.append_nil tk]⟩
  | cons x r => exact ⟨.ow tk.length, [((x :: r).length, sz)], [tk.length], ⟨_, rfl, Or.inr ⟨by simp, _, rfl, rfl⟩⟩, good_one (Nat.le_refl _) (by simp), fun B => by unfold appA; rw [if_pos hc]⟩
theorem own40 (p : Pth) (hv : p.verbs.length ≤ 1048576) (hp : p.points.length ≤ 1048576) : ∀ tk0 : List (Nat × Nat),
    ∃ v tk ts, pthO v p ts ∧ good ts tk0.length (tk0 ++ tk).length ∧ ∀ (fl : Bool) (B : List (List AV)) (a : AV), snapN 6 ⟨B, tk0⟩ a = some (.agg (pthC p)) → Cl T fl 40 [a] ⟨B, tk0⟩ = some (v, ⟨B, tk0 ++ tk⟩) := by
  refine own_g (s := f40S) T_e40 T_f40 rfl (Nat.le_of_ble_eq_true rfl) (fun r ts k h => pthO_shift k h) ?_
  have hlv : (ints p.verbs).length = p.verbs.length := by simp [ints]
  have hlp : (pts p.points).length = p.points.length := by simp [pts]
  obtain ⟨tok1, tk1, ts1, ⟨_, e1, o1⟩, g1, h1⟩ := app_be (sz := 1) (bytes := 8) [] (okE_ints p.verbs) (by omega) (by omega)
  obtain ⟨tok2, tk2, ts2, ⟨_, e2, o2⟩, g2, h2⟩ := app_be (sz := 2) (bytes := 16) ([] ++ tk1) (okE_pts p.points) (by omega) (by omega)
  injection e1 with e1 _
  injection e2 with e2 _
  subst e1 e2
  simp only [List.nil_append] at h1 h2 g1 g2
  simp only [f40S, f40B, pthC, h1, h2, len_nd, ↓cut_nd, all_nd, bdL_nd, ↓lay_nd, nd_0, nd_1, nd_2, List.getElem?_drop, List.length_drop, bdL_ints, bdL_pts, W_start, ↓WS_seq, ↓WS_reg, ↓WS_cond, ↓WS_ret, ↓WS_skip, ↓WS_exit, ↓WS_block, ↓WS_loop, ↓WE_nil, ↓WE_sq_n, ↓WE_sq_r, ↓WE_sq_x, ↓WE_bk_n, ↓WE_bk_r, ↓WE_bk_x, ↓WE_lp_n, ↓WE_lp_r, ↓WE_lp_x, ↓WR_nil, ↓WR_cons, ↓WR_guard, WV_some, WT_bool, WT_int, WT_str, WT_nil, WT_ptr, WT_adr, WT_sl, WT_agg, WT_tup, WT_fn, WT_bsl, WT_und, WT_any, WC_bool, WG_bool, WG_und, SOp.ev, X.ev, updO_some, updO_none, ↓upd_same, ↓upd_ne, ↓reduceIte, pick, argEnv_cons, argEnv_nil, bot_at, endQ, resL, resA, oneOrTup, abin, ibin, Nat.reduceEqDiff, if_true, if_false, Option.map_some, seal_bool, seal_int, cond_true, cond_false, Bool.false_eq_true, reduceCtorEq, decide_eq_true_eq, and_self, and_true, true_and, AV.known, AV.cells, cut, List.length_cons, List.length_nil, List.length_map, List.drop_zero, List.drop_succ_cons, List.getElem?_cons_zero, List.getElem?_cons_succ, List.getElem?_append_right, List.getElem?_map, Nat.zero_add, Nat.add_zero, Nat.reduceAdd, Nat.reduceLeDiff, Nat.le_refl, List.nil_append, List.length_append, Int.toNat_natCast, Int.natCast_nonneg, Bool.not_true, Bool.not_false, beq_iff_eq, List.take_succ_cons, List.take_zero, Nat.reduceSub, Nat.sub_self, Nat.reduceMul, Nat.mul_one, evL, ne_eq, not_false_eq_true, get_last, set_last, okE, AV.bd, AV.bdL, Bool.and_self, Bool.and_true, Bool.true_and, List.all_cons, List.all_nil, AV.one, lay, List.set_cons_zero, List.append_nil, beq_self_eq_true, List.drop_nil, evP, fillA, Bool.false_xor, Bool.true_xor, Option.map_none, List.cons_append, hdOk, List.set_cons_succ]
  have hr := pthO_own (r := .agg [.sl tok1 (ints p.verbs), .sl tok2 (pts p.points)]) ⟨_, _, ts1, ts2, rfl, ⟨tok1, rfl, o1⟩, ⟨tok2, rfl, o2⟩, rfl⟩
  refine ⟨_, _, sealR_of (acc := []) rfl hr rfl, ts1 ++ ts2, ⟨_, _, ts1, ts2, rfl, ⟨tok1, rfl, o1⟩, ⟨tok2, rfl, o2⟩, rfl⟩, ?_⟩
  simp only [List.map_nil, List.append_nil]
  exact good_app g1 g2

/-! ### impl.copyPath, copyNode -/
theorem own68 (p : Pth) (hv : p.verbs.length ≤ 1048576) (hp : p.points.length ≤ 1048576) : ∀ tk0 : List (Nat × Nat),
    ∃ v tk ts, pthO v p ts ∧ good ts tk0.length (tk0 ++ tk).length ∧ ∀ (fl : Bool) (B : List (List AV)) (a : AV), snapN 6 ⟨B, tk0⟩ a = some (.agg (pthC p)) → Cl T fl 68 [a] ⟨B, tk0⟩ = some (v, ⟨B, tk0 ++ tk⟩) := by
  refine own_g (s := f68S) T_e68 T_f68 rfl (Nat.le_of_ble_eq_true rfl) (fun r ts k h => pthO_shift k h) ?_
  obtain ⟨_, tk1, ts1, ⟨tok1, rfl, o1⟩, g1, h1⟩ := own69 p.verbs hv []
  have h1' := fun fl B => h1 fl B (.sl .sh (ints p.verbs)) (snap_ints 5 _ _ _)
  obtain ⟨_, tk2, ts2, ⟨tok2, rfl, o2⟩, g2, h2⟩ := own89 p.points hp tk1
  have h2' := fun fl B => h2 fl B (.sl .sh (pts p.points)) (snap_pts 5 _ _ _)
  simp only [f68S, f68B, pthC, h1', h2', List.nil_append, len_nd, ↓cut_nd, all_nd, bdL_nd, ↓lay_nd, nd_0, nd_1, nd_2, List.getElem?_drop, List.length_drop, bdL_ints, bdL_pts, W_start, ↓WS_seq, ↓WS_reg, ↓WS_cond, ↓WS_ret, ↓WS_skip, ↓WS_exit, ↓WS_block, ↓WS_loop, ↓WE_nil, ↓WE_sq_n, ↓WE_sq_r, ↓WE_sq_x, ↓WE_bk_n, ↓WE_bk_r, ↓WE_bk_x, ↓WE_lp_n, ↓WE_lp_r, ↓WE_lp_x, ↓WR_nil, ↓WR_cons, ↓WR_guard, WV_some, WT_bool, WT_int, WT_str, WT_nil, WT_ptr, WT_adr, WT_sl, WT_agg, WT_tup, WT_fn, WT_bsl, WT_und, WT_any, WC_bool, WG_bool, WG_und, SOp.ev, X.ev, updO_some, updO_none, ↓upd_same, ↓upd_ne, ↓reduceIte, pick, argEnv_cons, argEnv_nil, bot_at, endQ, resL, resA, oneOrTup, abin, ibin, Nat.reduceEqDiff, if_true, if_false, Option.map_some, seal_bool, seal_int, cond_true, cond_false, Bool.false_eq_true, reduceCtorEq, decide_eq_true_eq, and_self, and_true, true_and, AV.known, AV.cells, cut, List.length_cons, List.length_nil, List.length_map, List.drop_zero, List.drop_succ_cons, List.getElem?_cons_zero, List.getElem?_cons_succ, List.getElem?_append_right, List.getElem?_map, Nat.zero_add, Nat.add_zero, Nat.reduceAdd, Nat.reduceLeDiff, Nat.le_refl, List.nil_append, List.length_append, Int.toNat_natCast, Int.natCast_nonneg, Bool.not_true, Bool.not_false, beq_iff_eq, List.take_succ_cons, List.take_zero, Nat.reduceSub, Nat.sub_self, Nat.reduceMul, Nat.mul_one, evL, ne_eq, not_false_eq_true, get_last, set_last, okE, AV.bd, AV.bdL, Bool.and_self, Bool.and_true, Bool.true_and, List.all_cons, List.all_nil, AV.one, lay, List.set_cons_zero, List.append_nil, beq_self_eq_true, List.drop_nil, evP, fillA, Bool.false_xor, Bool.true_xor, Option.map_none, List.cons_append, hdOk, List.set_cons_succ]
  have hr := pthO_own (r := .agg [.sl tok1 (ints p.verbs), .sl tok2 (pts p.points)]) ⟨_, _, ts1, ts2, rfl, ⟨tok1, rfl, o1⟩, ⟨tok2, rfl, o2⟩, rfl⟩
  refine ⟨_, _, sealR_of (acc := []) rfl hr rfl, ts1 ++ ts2, ⟨_, _, ts1, ts2, rfl, ⟨tok1, rfl, o1⟩, ⟨tok2, rfl, o2⟩, rfl⟩, ?_⟩
  simp only [List.map_nil, List.append_nil]
  exact good_app (by simpa using g1) g2

theorem fin_nd (n : Nd) {tok1 tok2 tok3 tok4 tok5 : Tok} {ts1 ts2 ts3 ts4 ts5 : List Nat} (o1 : slO (.sl tok1 (ints n.path.verbs)) (ints n.path.verbs) ts1) (o2 : slO (.sl tok2 (pts n.path.points)) (pts n.path.points) ts2) (o3 : slO (.sl tok3 (ints n.dashes)) (ints n.dashes) ts3)
    (o4 : slO (.sl tok4 (ints n.clip.verbs)) (ints n.clip.verbs) ts4) (o5 : slO (.sl tok5 (pts n.clip.points)) (pts n.clip.points) ts5) (tk : List (Nat × Nat)) (hg : good (ts1 ++ ts2 ++ ts3 ++ (ts4 ++ ts5)) 0 tk.length) :
    ∀ B, ∃ r ts, sealR (.agg (ndW n (.sl tok1 (ints n.path.verbs)) (.sl tok2 (pts n.path.points)) (.sl tok3 (ints n.dashes)) (.sl tok4 (ints n.clip.verbs)) (.sl tok5 (pts n.clip.points)))) ⟨B, tk⟩ = some (r, ts) ∧ ∃ t, ndO r n t ∧ good t 0 ts.length := fun B => by
  have hr : ndO (.agg (ndW n (.sl tok1 (ints n.path.verbs)) (.sl tok2 (pts n.path.points)) (.sl tok3 (ints n.dashes)) (.sl tok4 (ints n.clip.verbs)) (.sl tok5 (pts n.clip.points)))) n (ts1 ++ ts2 ++ ts3 ++ (ts4 ++ ts5)) :=
    ⟨_, _, _, _, _, ts1, ts2, ts3, ts4, ts5, rfl, o1, o2, o3, o4, o5, rfl⟩
  refine ⟨_, _, sealR_of (acc := []) rfl (ndO_own hr) rfl, _, hr, ?_⟩
  simpa using hg

theorem own42 (n : Nd) (hn : smN n) : ∀ tk0 : List (Nat × Nat),
    ∃ v tk ts, ndO v n ts ∧ good ts tk0.length (tk0 ++ tk).length ∧ ∀ (fl : Bool) (B : List (List AV)) (a : AV), snapN 6 ⟨B, tk0⟩ a = some (ndE n) → Cl T fl 42 [a] ⟨B, tk0⟩ = some (v, ⟨B, tk0 ++ tk⟩) := by
  refine own_g (s := f42S) T_e42 T_f42 rfl (Nat.le_of_ble_eq_true rfl) (fun r ts k h => ndO_shift k h) ?_
  obtain ⟨_, tk1, _, ⟨_, _, ts1, ts2, rfl, ⟨tok1, rfl, o1⟩, ⟨tok2, rfl, o2⟩, rfl⟩, g1, h1⟩ := own68 n.path hn.v hn.p []
  have h1' := fun fl B => h1 fl B (.agg [.sl .sh (ints n.path.verbs), .sl .sh (pts n.path.points)]) (snap_pth' _ n.path)
  obtain ⟨_, tk4, _, ⟨_, _, ts4, ts5, rfl, ⟨tok4, rfl, o4⟩, ⟨tok5, rfl, o5⟩, rfl⟩, g4, h4⟩ := own68 n.clip hn.cv hn.cp tk1
  have h4' := fun fl B => h4 fl B (.agg [.sl .sh (ints n.clip.verbs), .sl .sh (pts n.clip.points)]) (snap_pth' _ n.clip)
  obtain ⟨_, tk3, ts3, ⟨tok3, rfl, o3⟩, g3, h3⟩ := own69 n.dashes hn.d (tk1 ++ tk4)
  have h3' := fun fl B => h3 fl B (.sl .sh (ints n.dashes)) (snap_ints 5 _ _ _)
  simp only [f42S, f42B, ndE, ndC, ndW, h1', h3', h4', List.nil_append, len_nd, ↓cut_nd, all_nd, bdL_nd, ↓lay_nd, nd_0, nd_1, nd_2, List.getElem?_drop, List.length_drop, bdL_ints, bdL_pts, W_start, ↓WS_seq, ↓WS_reg, ↓WS_cond, ↓WS_ret, ↓WS_skip, ↓WS_exit, ↓WS_block, ↓WS_loop, ↓WE_nil, ↓WE_sq_n, ↓WE_sq_r, ↓WE_sq_x, ↓WE_bk_n, ↓WE_bk_r, ↓WE_bk_x, ↓WE_lp_n, ↓WE_lp_r, ↓WE_lp_x, ↓WR_nil, ↓WR_cons, ↓WR_guard, WV_some, WT_bool, WT_int, WT_str, WT_nil, WT_ptr, WT_adr, WT_sl, WT_agg, WT_tup, WT_fn, WT_bsl, WT_und, WT_any, WC_bool, WG_bool, WG_und, SOp.ev, X.ev, updO_some, updO_none, ↓upd_same, ↓upd_ne, ↓reduceIte, pick, argEnv_cons, argEnv_nil, bot_at, endQ, resL, resA, oneOrTup, abin, ibin, Nat.reduceEqDiff, if_true, if_false, Option.map_some, seal_bool, seal_int, cond_true, cond_false, Bool.false_eq_true, reduceCtorEq, decide_eq_true_eq, and_self, and_true, true_and, AV.known, AV.cells, cut, List.length_cons, List.length_nil, List.length_map, List.drop_zero, List.drop_succ_cons, List.getElem?_cons_zero, List.getElem?_cons_succ, List.getElem?_append_right, List.getElem?_map, Nat.zero_add, Nat.add_zero, Nat.reduceAdd, Nat.reduceLeDiff, Nat.le_refl, List.nil_append, List.length_append, Int.toNat_natCast, Int.natCast_nonneg, Bool.not_true, Bool.not_false, beq_iff_eq, List.take_succ_cons, List.take_zero, Nat.reduceSub, Nat.sub_self, Nat.reduceMul, Nat.mul_one, evL, ne_eq, not_false_eq_true, get_last, set_last, okE, AV.bd, AV.bdL, Bool.and_self, Bool.and_true, Bool.true_and, List.all_cons, List.all_nil, AV.one, lay, List.set_cons_zero, List.append_nil, beq_self_eq_true, List.drop_nil, evP, fillA, Bool.false_xor, Bool.true_xor, Option.map_none, List.cons_append, hdOk, List.set_cons_succ]
  refine fin_nd n ⟨_, rfl, o1⟩ ⟨_, rfl, o2⟩ ⟨_, rfl, o3⟩ ⟨_, rfl, o4⟩ ⟨_, rfl, o5⟩ _ ?_ _
  have := good_app (good_app (by simpa using g1) g4) g3
  refine good_perm this ?_
  rw [List.append_assoc, List.append_assoc (ts1 ++ ts2)]
  exact List.perm_append_comm.append_left _

theorem own19 (n : Nd) (hn : smN n) : ∀ tk0 : List (Nat × Nat),
    ∃ v tk ts, ndO v n ts ∧ good ts tk0.length (tk0 ++ tk).length ∧ ∀ (fl : Bool) (B : List (List AV)) (a : AV), snapN 6 ⟨B, tk0⟩ a = some (ndE n) → Cl T fl 19 [a] ⟨B, tk0⟩ = some (v, ⟨B, tk0 ++ tk⟩) := by
  refine own_g (s := f19S) T_e19 T_f19 rfl (Nat.le_of_ble_eq_true rfl) (fun r ts k h => ndO_shift k h) ?_
  obtain ⟨_, tk1, _, ⟨_, _, ts1, ts2, rfl, ⟨tok1, rfl, o1⟩, ⟨tok2, rfl, o2⟩, rfl⟩, g1, h1⟩ := own40 n.path hn.v hn.p []
  have h1' := fun fl B => h1 fl B (.agg [.sl .sh (ints n.path.verbs), .sl .sh (pts n.path.points)]) (snap_pth' _ n.path)
  obtain ⟨_, tk4, _, ⟨_, _, ts4, ts5, rfl, ⟨tok4, rfl, o4⟩, ⟨tok5, rfl, o5⟩, rfl⟩, g4, h4⟩ := own40 n.clip hn.cv hn.cp tk1
  have h4' := fun fl B => h4 fl B (.agg [.sl .sh (ints n.clip.verbs), .sl .sh (pts n.clip.points)]) (snap_pth' _ n.clip)
  have hlen : (ints n.dashes).length = n.dashes.length := by simp [ints]
  have hdd := hn.d
  obtain ⟨tok3, tk3, ts3, ⟨_, e3, o3⟩, g3, happ⟩ := app_be (sz := 1) (bytes := 8) (tk1 ++ tk4) (okE_ints n.dashes) (by omega) (by omega)
  injection e3 with e3 _
  subst e3
  simp only [f19S, f19B, ndE, ndC, ndW, h1', h4', happ, List.nil_append, len_nd, ↓cut_nd, all_nd, bdL_nd, ↓lay_nd, nd_0, nd_1, nd_2, List.getElem?_drop, List.length_drop, bdL_ints, bdL_pts, W_start, ↓WS_seq, ↓WS_reg, ↓WS_cond, ↓WS_ret, ↓WS_skip, ↓WS_exit, ↓WS_block, ↓WS_loop, ↓WE_nil, ↓WE_sq_n, ↓WE_sq_r, ↓WE_sq_x, ↓WE_bk_n, ↓WE_bk_r, ↓WE_bk_x, ↓WE_lp_n, ↓WE_lp_r, ↓WE_lp_x, ↓WR_nil, ↓WR_cons, ↓WR_guard, WV_some, WT_bool, WT_int, WT_str, WT_nil, WT_ptr, WT_adr, WT_sl, WT_agg, WT_tup, WT_fn, WT_bsl, WT_und, WT_any, WC_bool, WG_bool, WG_und, SOp.ev, X.ev, updO_some, updO_none, ↓upd_same, ↓upd_ne, ↓reduceIte, pick, argEnv_cons, argEnv_nil, bot_at, endQ, resL, resA, oneOrTup, abin, ibin, Nat.reduceEqDiff, if_true, if_false, Option.map_some, seal_bool, seal_int, cond_true, cond_false, Bool.false_eq_true, reduceCtorEq, decide_eq_true_eq, and_self, and_true, true_and, AV.known, AV.cells, cut, List.length_cons, List.length_nil, List.length_map, List.drop_zero, List.drop_succ_cons, List.getElem?_cons_zero, List.getElem?_cons_succ, List.getElem?_append_right, List.getElem?_map, Nat.zero_add, Nat.add_zero, Nat.reduceAdd, Nat.reduceLeDiff, Nat.le_refl, List.nil_append, List.length_append, Int.toNat_natCast, Int.natCast_nonneg, Bool.not_true, Bool.not_false, beq_iff_eq, List.take_succ_cons, List.take_zero, Nat.reduceSub, Nat.sub_self, Nat.reduceMul, Nat.mul_one, evL, ne_eq, not_false_eq_true, get_last, set_last, okE, AV.bd, AV.bdL, Bool.and_self, Bool.and_true, Bool.true_and, List.all_cons, List.all_nil, AV.one, lay, List.set_cons_zero, List.append_nil, beq_self_eq_true, List.drop_nil, evP, fillA, Bool.false_xor, Bool.true_xor, Option.map_none, List.cons_append, hdOk, List.set_cons_succ]
  refine fin_nd n ⟨_, rfl, o1⟩ ⟨_, rfl, o2⟩ ⟨_, rfl, o3⟩ ⟨_, rfl, o4⟩ ⟨_, rfl, o5⟩ _ ?_ _
  have := good_app (good_app (by simpa using g1) g4) g3
  refine good_perm this ?_
  rw [List.append_assoc, List.append_assoc (ts1 ++ ts2)]
  exact List.perm_append_comm.append_left _
end Go.Proofs.Ytnehpfaafgnnpaa

namespace Go.Proofs.Ytnehpfaafgnnpaa
open Go.AM Go.AM.AV

/-- A list of nodes that is appended to. -/
def accN (t : Tok) (ns : List AV) (l : List Nd) (ts : List Nat) (tk : List (Nat × Nat)) : Prop :=
  ndsO ns l ts ∧ good ts 0 tk.length ∧ ((t = .nl ∧ ns = []) ∨ ∃ i, t = .ow i ∧ i ∉ ts ∧ tk[i]? = some (ns.length, 31))
theorem accN_nil (tk : List (Nat × Nat)) : accN .nl [] [] [] tk := ⟨rfl, good_nil (Nat.zero_le _), Or.inl ⟨rfl, rfl⟩⟩
theorem accN_step {t : Tok} {ns : List AV} {l : List Nd} {ts t1 : List Nat} {tk tk1 : List (Nat × Nat)} {x : AV} {n : Nd} (h : accN t ns l ts tk) (hx : ndO x n t1) (hg : good t1 tk.length (tk ++ tk1).length) (hl : l.length ≤ 1048576) :
    ∃ t' tk', (∀ B, appA 31 328 t ns [x] ⟨B, tk ++ tk1 ++ [(1, 31)]⟩ = some (.sl t' (ns ++ [x]), ⟨B, tk'⟩)) ∧ accN t' (ns ++ [x]) (l ++ [n]) (ts ++ t1) tk' := by
  obtain ⟨h1, h2, h3⟩ := h
  have hlen := ndsO_len h1
  have hacc : accT 31 t ns.length (tk ++ tk1 ++ [(1, 31)]) := by
    rw [List.append_assoc]
    refine accT_mono ?_ _
    rcases h3 with ⟨rfl, rfl⟩ | ⟨i, rfl, -, hi⟩
    · exact Or.inl ⟨rfl, rfl⟩
    · exact Or.inr ⟨i, rfl, hi⟩
  have hok : [x].all (okE 31) = true := by
    obtain ⟨v, p, d, cv, cp, t1, t2, t3, t4, t5, rfl, ⟨_, rfl, -⟩, ⟨_, rfl, -⟩, ⟨_, rfl, -⟩, ⟨_, rfl, -⟩, ⟨_, rfl, -⟩, -⟩ := hx
    rfl
  obtain ⟨t', tk', ha, hacc', hle, i, hi, hilt, hio⟩ := app_acc (bytes := 328) (ys := [x]) hacc hok (by simp) (by simp only [List.length_cons, List.length_nil]; omega) (by omega)
  have hg12 := good_app h2 hg
  have hlong : (tk ++ tk1).length ≤ tk'.length := by
    have : (tk ++ tk1 ++ [(1, 31)]).length = (tk ++ tk1).length + 1 := by simp only [List.length_append, List.length_cons, List.length_nil]
    omega
  refine ⟨t', tk', ha, ndsO_snoc hx h1, good_wide hg12 (Nat.le_refl _) hlong, Or.inr ⟨i, hi, ?_, ?_⟩⟩
  · intro hm
    rcases hio with hio | hio
    · rcases h3 with ⟨rfl, -⟩ | ⟨i', rfl, hn, hi'⟩
      · cases hio
      · obtain rfl : i' = i := by injection hio
        rcases List.mem_append.1 hm with hm | hm
        · exact hn hm
        · have := hg.2.2 _ hm
          have := (List.getElem?_eq_some_iff.1 hi').1
          omega
    · have := hg12.2.2 _ hm
      simp only [List.length_append, List.length_cons, List.length_nil] at hio this
      omega
  · rcases hacc' with ⟨h, -⟩ | ⟨j, hj, hjk⟩
    · rw [hi] at h; cases h
    · rw [hi] at hj
      obtain rfl : i = j := by injection hj
      exact hjk
theorem accN_sc {t : Tok} {ns : List AV} {l : List Nd} {ts : List Nat} {tk : List (Nat × Nat)} (h : accN t ns l ts tk) : ∃ ts', scO (.agg [.sl t ns]) l ts' ∧ good ts' 0 tk.length := by
  obtain ⟨h1, h2, h3⟩ := h
  rcases h3 with ⟨rfl, rfl⟩ | ⟨i, rfl, hi, hk⟩
  · exact ⟨ts ++ [], ⟨_, [], ts, [], rfl, ⟨_, rfl, Or.inl ⟨rfl, rfl⟩⟩, h1, rfl⟩, by rw [List.append_nil]; exact h2⟩
  · cases ns with
    | nil => exact ⟨ts ++ [], ⟨_, [], ts, [], rfl, ⟨_, rfl, Or.inl ⟨rfl, rfl⟩⟩, h1, rfl⟩, by rw [List.append_nil]; exact h2⟩
    | cons x r =>
      refine ⟨ts ++ [i], ⟨_, x :: r, ts, [i], rfl, ⟨_, rfl, Or.inr ⟨by simp, i, rfl, rfl⟩⟩, h1, rfl⟩, Nat.zero_le _, ?_, fun x hx => ?_⟩
      · rw [List.nodup_append]
        exact ⟨h2.2.1, by simp, fun a ha b hb => by simp only [List.mem_singleton] at hb; subst hb; intro hab; subst hab; exact hi ha⟩
      · rcases List.mem_append.1 hx with hx | hx
        · exact h2.2.2 x hx
        · simp only [List.mem_singleton] at hx
          subst hx
          exact ⟨Nat.zero_le _, (List.getElem?_eq_some_iff.1 hk).1⟩
theorem bdL_ndsO {xs : List AV} {l : List Nd} {ts : List Nat} (h : ndsO xs l ts) (k : Nat) : bdL k xs = true := datL_bdL _ (ownL_datL _ (ndsO_own h))
theorem take_snoc {l : List Nd} {i : Nat} (hi : i < l.length) : l.take (i + 1) = l.take i ++ [l[i]] := by
  rw [List.take_add_one, List.getElem?_eq_getElem hi]; rfl

theorem lp21 (l : List Nd) (hl : l.length ≤ 1048576) (hs : ∀ n ∈ l, smN n) (st : List Fr) (Q : Ex → Env → Mem → Prop) :
    ∀ i, i ≤ l.length → ∀ (B : List (List AV)) (tk : List (Nat × Nat)) (t : Tok) (ns : List AV) (ts : List Nat), B[2]? = some [.sl t ns] → B[1]? = some [.sl .nl []] → accN t ns (l.take i) ts tk →
      (∀ (e : Env) (B : List (List AV)) (tk : List (Nat × Nat)) (t : Tok) (ns : List AV) (ts : List Nat), e 2 = .ptr 1 0 → e 3 = .ptr 2 0 → B[2]? = some [.sl t ns] → B[1]? = some [.sl .nl []] → accN t ns l ts tk → WE T (.exit 0) st e ⟨B, tk⟩ Q) →
      WL T [2, 3, 7, 8, 9] f21L0 st (upd (upd (upd (upd (upd bot 9 (i64 i)) 8 (i64 l.length)) 7 (.sl .sh (nds l))) 3 (.ptr 2 0)) 2 (.ptr 1 0)) ⟨B, tk⟩ Q := by
  refine upto _ ?_ fun i hi ih B tk t ns ts hB2 hB1 ha hx => ?_
  · intro B tk t ns ts hB2 hB1 ha hx
    rw [List.take_length] at ha
    rw [WL_go (a := f21L0) (b := f21L0b) rfl]
    simp only [f21L0b, Int.lt_irrefl, W_start, ↓WS_seq, ↓WS_reg, ↓WS_cond, ↓WS_ret, ↓WS_skip, ↓WS_exit, ↓WS_block, ↓WS_loop, ↓WE_nil, ↓WE_sq_n, ↓WE_sq_r, ↓WE_sq_x, ↓WE_bk_n, ↓WE_bk_r, ↓WE_bk_x, ↓WE_lp_n, ↓WE_lp_r, ↓WE_lp_x, ↓WR_nil, ↓WR_cons, ↓WR_guard, WV_some, WT_bool, WT_int, WT_str, WT_nil, WT_ptr, WT_adr, WT_sl, WT_agg, WT_tup, WT_fn, WT_bsl, WT_und, WT_any, WC_bool, WG_bool, WG_und, SOp.ev, X.ev, updO_some, updO_none, ↓upd_same, ↓upd_ne, ↓reduceIte, pick, argEnv_cons, argEnv_nil, bot_at, endQ, resL, resA, oneOrTup, abin, ibin, Nat.reduceEqDiff, if_true, if_false, Option.map_some, seal_bool, seal_int, cond_true, cond_false, Bool.false_eq_true, reduceCtorEq, decide_eq_true_eq, and_self, and_true, true_and, AV.known, AV.cells, cut, List.length_cons, List.length_nil, List.length_map, List.drop_zero, List.drop_succ_cons, List.getElem?_cons_zero, List.getElem?_cons_succ, List.getElem?_append_right, List.getElem?_map, Nat.zero_add, Nat.add_zero, Nat.reduceAdd, Nat.reduceLeDiff, Nat.le_refl, List.nil_append, List.length_append, Int.toNat_natCast, Int.natCast_nonneg, Bool.not_true, Bool.not_false, beq_iff_eq, List.take_succ_cons, List.take_zero, Nat.reduceSub, Nat.sub_self, Nat.reduceMul, Nat.mul_one, evL, ne_eq, not_false_eq_true, get_last, set_last, okE, AV.bd, AV.bdL, Bool.and_self, Bool.and_true, Bool.true_and, List.all_cons, List.all_nil, AV.one, lay, List.set_cons_zero, List.append_nil, beq_self_eq_true, List.drop_nil, evP, fillA, Bool.false_xor, Bool.true_xor, Option.map_none, List.cons_append, hdOk, List.set_cons_succ]
    exact hx _ B tk t ns ts rfl rfl hB2 hB1 ha
  · have hnds : (nds l)[i]? = some (.agg (ndC l[i])) := by simp only [nds, List.getElem?_map, List.getElem?_eq_getElem hi, Option.map_some, ndE]
    have hlt' : (i : Int) < l.length := by omega
    have hw1 : IntKind.i64.wrap ((i : Int) + 1) = i + 1 := wrap_ok (by omega)
    have hb2 : 2 < B.length := (List.getElem?_eq_some_iff.1 hB2).1
    obtain ⟨x, tk1, t1, hn1, g1, h42⟩ := own42 l[i] (hs _ (List.getElem_mem hi)) tk
    obtain ⟨t', tk', happ, hacc⟩ := accN_step ha hn1 g1 (by rw [List.length_take]; omega)
    have hB2' : ∀ y, (B ++ [y])[2]? = some [.sl t ns] := fun y => by rw [List.getElem?_append_left hb2]; exact hB2
    have hself : ∀ y Y, ((B ++ [y]).set 2 Y)[2]? = some Y := fun y Y => List.getElem?_set_self (by rw [List.length_append]; omega)
    have hB1' : ∀ y Y, ((B ++ [y]).set 2 Y)[1]? = some [.sl .nl []] := fun y Y => by
      rw [List.getElem?_set_ne (by omega), List.getElem?_append_left (by omega)]; exact hB1
    rw [take_snoc hi] at ih
    have hbd := bdL_ndsO hacc.1
    obtain ⟨v, p, d, cv, cp, t1', t2, t3, t4, t5, rfl, ⟨k1, rfl, o1⟩, ⟨k2, rfl, o2⟩, ⟨k3, rfl, o3⟩, ⟨k4, rfl, o4⟩, ⟨k5, rfl, o5⟩, ho⟩ := hn1
    have h42' := fun fl B => h42 fl B (.agg (ndC l[i])) (snap_nd' _ _)
    have hal := all_W l[i] k1 k2 k3 k4 k5 (ints l[i].path.verbs) (pts l[i].path.points) (ints l[i].dashes) (ints l[i].clip.verbs) (pts l[i].clip.points)
    have hwl : (ndW l[i] (.sl k1 (ints l[i].path.verbs)) (.sl k2 (pts l[i].path.points)) (.sl k3 (ints l[i].dashes)) (.sl k4 (ints l[i].clip.verbs)) (.sl k5 (pts l[i].clip.points))).length = 31 := rfl
    generalize ndW l[i] (.sl k1 (ints l[i].path.verbs)) (.sl k2 (pts l[i].path.points)) (.sl k3 (ints l[i].dashes)) (.sl k4 (ints l[i].clip.verbs)) (.sl k5 (pts l[i].clip.points)) = W at *
    generalize ns ++ [.agg W] = ns' at *
    rw [WL_go (a := f21L0) (b := f21L0b) rfl]
    simp only [f21L0b, hnds, hlt', hw1, hB2', h42', happ, hbd, hal, hwl, len_nd, ↓cut_nd, all_nd, bdL_nd, ↓lay_nd, nd_0, nd_1, nd_2, List.getElem?_drop, List.length_drop, bdL_ints, bdL_pts, W_start, ↓WS_seq, ↓WS_reg, ↓WS_cond, ↓WS_ret, ↓WS_skip, ↓WS_exit, ↓WS_block, ↓WS_loop, ↓WE_nil, ↓WE_sq_n, ↓WE_sq_r, ↓WE_sq_x, ↓WE_bk_n, ↓WE_bk_r, ↓WE_bk_x, ↓WE_lp_n, ↓WE_lp_r, ↓WE_lp_x, ↓WR_nil, ↓WR_cons, ↓WR_guard, WV_some, WT_bool, WT_int, WT_str, WT_nil, WT_ptr, WT_adr, WT_sl, WT_agg, WT_tup, WT_fn, WT_bsl, WT_und, WT_any, WC_bool, WG_bool, WG_und, SOp.ev, X.ev, updO_some, updO_none, ↓upd_same, ↓upd_ne, ↓reduceIte, pick, argEnv_cons, argEnv_nil, bot_at, endQ, resL, resA, oneOrTup, abin, ibin, Nat.reduceEqDiff, if_true, if_false, Option.map_some, seal_bool, seal_int, cond_true, cond_false, Bool.false_eq_true, reduceCtorEq, decide_eq_true_eq, and_self, and_true, true_and, AV.known, AV.cells, cut, List.length_cons, List.length_nil, List.length_map, List.drop_zero, List.drop_succ_cons, List.getElem?_cons_zero, List.getElem?_cons_succ, List.getElem?_append_right, List.getElem?_map, Nat.zero_add, Nat.add_zero, Nat.reduceAdd, Nat.reduceLeDiff, Nat.le_refl, List.nil_append, List.length_append, Int.toNat_natCast, Int.natCast_nonneg, Bool.not_true, Bool.not_false, beq_iff_eq, List.take_succ_cons, List.take_zero, Nat.reduceSub, Nat.sub_self, Nat.reduceMul, Nat.mul_one, evL, ne_eq, not_false_eq_true, get_last, set_last, okE, AV.bd, AV.bdL, Bool.and_self, Bool.and_true, Bool.true_and, List.all_cons, List.all_nil, AV.one, lay, List.set_cons_zero, List.append_nil, beq_self_eq_true, List.drop_nil, evP, fillA, Bool.false_xor, Bool.true_xor, Option.map_none, List.cons_append, hdOk, List.set_cons_succ]
    exact ih _ tk' t' ns' _ (hself _ _) (hB1' _ _) hacc hx

theorem box21 (l : List Nd) (hl : l.length ≤ 1048576) (hs : ∀ n ∈ l, smN n) :
    ∃ r ts, (scO r l ts ∧ ts.Nodup) ∧ ∀ (fl : Bool) (M : Mem) (args : List AV) (r' : AV) (bs : List (List AV)), snapL M args = some [scE l] → boxR M.boxes.length r = some (r', bs) → Cl T fl 21 args M = some (r', ⟨M.boxes ++ bs, M.toks⟩) := by
  obtain ⟨r, tk, ⟨ts, hts⟩, h⟩ := box_ex (f := 21) (s := f21S) (ar := [scE l]) (P := fun r _ => ∃ ts, scO r l ts ∧ ts.Nodup) T_e21 T_f21 rfl (Nat.le_of_ble_eq_true rfl) (by
    have hlen : (nds l).length = l.length := by simp [nds]
    simp only [f21S, f21B, scE, hlen, W_start, ↓WS_seq, ↓WS_reg, ↓WS_cond, ↓WS_ret, ↓WS_skip, ↓WS_exit, ↓WS_block, ↓WS_loop, ↓WE_nil, ↓WE_sq_n, ↓WE_sq_r, ↓WE_sq_x, ↓WE_bk_n, ↓WE_bk_r, ↓WE_bk_x, ↓WE_lp_n, ↓WE_lp_r, ↓WE_lp_x, ↓WR_nil, ↓WR_cons, ↓WR_guard, WV_some, WT_bool, WT_int, WT_str, WT_nil, WT_ptr, WT_adr, WT_sl, WT_agg, WT_tup, WT_fn, WT_bsl, WT_und, WT_any, WC_bool, WG_bool, WG_und, SOp.ev, X.ev, updO_some, updO_none, ↓upd_same, ↓upd_ne, ↓reduceIte, pick, argEnv_cons, argEnv_nil, bot_at, endQ, resL, resA, oneOrTup, abin, ibin, Nat.reduceEqDiff, if_true, if_false, Option.map_some, seal_bool, seal_int, cond_true, cond_false, Bool.false_eq_true, reduceCtorEq, decide_eq_true_eq, and_self, and_true, true_and, AV.known, AV.cells, cut, List.length_cons, List.length_nil, List.length_map, List.drop_zero, List.drop_succ_cons, List.getElem?_cons_zero, List.getElem?_cons_succ, List.getElem?_append_right, List.getElem?_map, Nat.zero_add, Nat.add_zero, Nat.reduceAdd, Nat.reduceLeDiff, Nat.le_refl, List.nil_append, List.length_append, Int.toNat_natCast, Int.natCast_nonneg, Bool.not_true, Bool.not_false, beq_iff_eq, List.take_succ_cons, List.take_zero, Nat.reduceSub, Nat.sub_self, Nat.reduceMul, Nat.mul_one, evL, ne_eq, not_false_eq_true, get_last, set_last, okE, AV.bd, AV.bdL, Bool.and_self, Bool.and_true, Bool.true_and, List.all_cons, List.all_nil, AV.one, lay, List.set_cons_zero, List.append_nil, beq_self_eq_true, List.drop_nil, evP, fillA, Bool.false_xor, Bool.true_xor, Option.map_none, List.cons_append, hdOk, List.set_cons_succ]
    refine lp21 l hl hs _ _ 0 (Nat.zero_le _) _ [] .nl [] [] rfl rfl (accN_nil _) (fun e B tk t ns ts he2 he3 hB2 hB1 ha => ?_)
    have hb1 : 1 < B.length := (List.getElem?_eq_some_iff.1 hB1).1
    have hself : ∀ Y, (B.set 1 Y)[1]? = some Y := fun Y => by simp [hb1]
    obtain ⟨ts', hr, hn⟩ := accN_sc ha
    have hbd := bdL_ndsO ha.1
    simp only [he2, he3, hB2, hB1, hself, hbd, len_nd, ↓cut_nd, all_nd, bdL_nd, ↓lay_nd, nd_0, nd_1, nd_2, List.getElem?_drop, List.length_drop, bdL_ints, bdL_pts, W_start, ↓WS_seq, ↓WS_reg, ↓WS_cond, ↓WS_ret, ↓WS_skip, ↓WS_exit, ↓WS_block, ↓WS_loop, ↓WE_nil, ↓WE_sq_n, ↓WE_sq_r, ↓WE_sq_x, ↓WE_bk_n, ↓WE_bk_r, ↓WE_bk_x, ↓WE_lp_n, ↓WE_lp_r, ↓WE_lp_x, ↓WR_nil, ↓WR_cons, ↓WR_guard, WV_some, WT_bool, WT_int, WT_str, WT_nil, WT_ptr, WT_adr, WT_sl, WT_agg, WT_tup, WT_fn, WT_bsl, WT_und, WT_any, WC_bool, WG_bool, WG_und, SOp.ev, X.ev, updO_some, updO_none, ↓upd_same, ↓upd_ne, ↓reduceIte, pick, argEnv_cons, argEnv_nil, bot_at, endQ, resL, resA, oneOrTup, abin, ibin, Nat.reduceEqDiff, if_true, if_false, Option.map_some, seal_bool, seal_int, cond_true, cond_false, Bool.false_eq_true, reduceCtorEq, decide_eq_true_eq, and_self, and_true, true_and, AV.known, AV.cells, cut, List.length_cons, List.length_nil, List.length_map, List.drop_zero, List.drop_succ_cons, List.getElem?_cons_zero, List.getElem?_cons_succ, List.getElem?_append_right, List.getElem?_map, Nat.zero_add, Nat.add_zero, Nat.reduceAdd, Nat.reduceLeDiff, Nat.le_refl, List.nil_append, List.length_append, Int.toNat_natCast, Int.natCast_nonneg, Bool.not_true, Bool.not_false, beq_iff_eq, List.take_succ_cons, List.take_zero, Nat.reduceSub, Nat.sub_self, Nat.reduceMul, Nat.mul_one, evL, ne_eq, not_false_eq_true, get_last, set_last, okE, AV.bd, AV.bdL, Bool.and_self, Bool.and_true, Bool.true_and, List.all_cons, List.all_nil, AV.one, lay, List.set_cons_zero, List.append_nil, beq_self_eq_true, List.drop_nil, evP, fillA, Bool.false_xor, Bool.true_xor, Option.map_none, List.cons_append, hdOk, List.set_cons_succ]
    exact ⟨_, _, scO_seal hr _, _, hr, hn.2.1⟩)
  exact ⟨r, ts, hts, h⟩
end Go.Proofs.Ytnehpfaafgnnpaa
