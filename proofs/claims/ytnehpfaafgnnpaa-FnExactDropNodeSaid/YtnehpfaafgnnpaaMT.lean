/- Copies of nodes and scenes for the law. Scenes in boxes. Scenes in boxes: lent, sealed, kept. -/
import Derived.Test.YtnehpfaafgnnpaaMS
set_option linter.unusedSimpArgs false
set_option linter.unusedVariables false
set_option linter.unnecessarySimpa false
namespace Go.Proofs.Ytnehpfaafgnnpaa
open Go.AM Go.AM.AV

/-- A node's cells, its slices handed over. -/
def ndO (r : AV) (n : Nd) (ts : List Nat) : Prop := ∃ v p d cv cp t1 t2 t3 t4 t5, r = .agg (ndW n v p d cv cp) ∧ slO v (ints n.path.verbs) t1 ∧ slO p (pts n.path.points) t2 ∧ slO d (ints n.dashes) t3 ∧
  slO cv (ints n.clip.verbs) t4 ∧ slO cp (pts n.clip.points) t5 ∧ ts = t1 ++ t2 ++ t3 ++ (t4 ++ t5)
theorem ndO_shift {r : AV} {n : Nd} {ts : List Nat} (k : Nat) (h : ndO r n ts) : ndO (r.shift k) n (ts.map (· + k)) := by
  obtain ⟨v, p, d, cv, cp, t1, t2, t3, t4, t5, rfl, h1, h2, h3, h4, h5, rfl⟩ := h
  refine ⟨v.shift k, p.shift k, d.shift k, cv.shift k, cp.shift k, _, _, _, _, _, rfl, slO_shift k (shiftL_ints k _) h1, slO_shift k (shiftL_pts k _) h2, slO_shift k (shiftL_ints k _) h3, slO_shift k (shiftL_ints k _) h4, slO_shift k (shiftL_pts k _) h5, ?_⟩
  simp only [List.map_append]
theorem ndO_own {r : AV} {n : Nd} {ts : List Nat} (h : ndO r n ts) : own r = true := by
  obtain ⟨v, p, d, cv, cp, t1, t2, t3, t4, t5, rfl, h1, h2, h3, h4, h5, rfl⟩ := h
  simp only [own, ownL, ndW, slO_own h1 (ownL_ints _), slO_own h2 (ownL_pts _), slO_own h3 (ownL_ints _), slO_own h4 (ownL_ints _), slO_own h5 (ownL_pts _), Bool.and_self]
structure smN (n : Nd) : Prop where
  v : n.path.verbs.length ≤ 1048576
  p : n.path.points.length ≤ 1048576
  d : n.dashes.length ≤ 1048576
  cv : n.clip.verbs.length ≤ 1048576
  cp : n.clip.points.length ≤ 1048576

theorem own41 (n : Nd) (hn : smN n) : ∀ tk0 : List (Nat × Nat),
    ∃ v tk ts, ndO v n ts ∧ good ts tk0.length (tk0 ++ tk).length ∧ ∀ (fl : Bool) (B : List (List AV)) (a : AV), snapN 6 ⟨B, tk0⟩ a = some (ndE n) → Cl T fl 41 [a] ⟨B, tk0⟩ = some (v, ⟨B, tk0 ++ tk⟩) := by
  refine own_g (s := f41S) T_e41 T_f41 rfl (Nat.le_of_ble_eq_true rfl) (fun r ts k h => ndO_shift k h) ?_
  obtain ⟨_, tk1, _, ⟨_, _, ts1, ts2, rfl, ⟨tok1, rfl, o1⟩, ⟨tok2, rfl, o2⟩, rfl⟩, g1, h1⟩ := own65 n.path hn.v hn.p []
  have h1' := fun fl B => h1 fl B (.agg [.sl .sh (ints n.path.verbs), .sl .sh (pts n.path.points)]) (snap_pth' _ n.path)
  obtain ⟨_, tk3, ts3, ⟨tok3, rfl, o3⟩, g3, h3⟩ := own66 n.dashes hn.d tk1
  have h3' := fun fl B => h3 fl B (.sl .sh (ints n.dashes)) (snap_ints 5 _ _ _)
  obtain ⟨_, tk4, _, ⟨_, _, ts4, ts5, rfl, ⟨tok4, rfl, o4⟩, ⟨tok5, rfl, o5⟩, rfl⟩, g4, h4⟩ := own65 n.clip hn.cv hn.cp (tk1 ++ tk3)
  have h4' := fun fl B => h4 fl B (.agg [.sl .sh (ints n.clip.verbs), .sl .sh (pts n.clip.points)]) (snap_pth' _ n.clip)
  have h67 := fun fl M => cl67 fl M n.paint
  unfold pntC at h67
  simp only [f41S, f41B, ndE, ndC, ndW, h1', h3', h4', h67, cl64, List.nil_append, len_nd, ↓cut_nd, all_nd, bdL_nd, ↓lay_nd, nd_0, nd_1, nd_2, List.getElem?_drop, List.length_drop, bdL_ints, bdL_pts, W_start, ↓WS_seq, ↓WS_reg, ↓WS_cond, ↓WS_ret, ↓WS_skip, ↓WS_exit, ↓WS_block, ↓WS_loop, ↓WE_nil, ↓WE_sq_n, ↓WE_sq_r, ↓WE_sq_x, ↓WE_bk_n, ↓WE_bk_r, ↓WE_bk_x, ↓WE_lp_n, ↓WE_lp_r, ↓WE_lp_x, ↓WR_nil, ↓WR_cons, ↓WR_guard, WV_some, WT_bool, WT_int, WT_str, WT_nil, WT_ptr, WT_adr, WT_sl, WT_agg, WT_tup, WT_fn, WT_bsl, WT_und, WT_any, WC_bool, WG_bool, WG_und, SOp.ev, X.ev, updO_some, updO_none, ↓upd_same, ↓upd_ne, ↓reduceIte, pick, argEnv_cons, argEnv_nil, bot_at, endQ, resL, resA, oneOrTup, abin, ibin, Nat.reduceEqDiff, if_true, if_false, Option.map_some, seal_bool, seal_int, cond_true, cond_false, Bool.false_eq_true, reduceCtorEq, decide_eq_true_eq, and_self, and_true, true_and, AV.known, AV.cells, cut, List.length_cons, List.length_nil, List.length_map, List.drop_zero, List.drop_succ_cons, List.getElem?_cons_zero, List.getElem?_cons_succ, List.getElem?_append_right, List.getElem?_map, Nat.zero_add, Nat.add_zero, Nat.reduceAdd, Nat.reduceLeDiff, Nat.le_refl, List.nil_append, List.length_append, Int.toNat_natCast, Int.natCast_nonneg, Bool.not_true, Bool.not_false, beq_iff_eq, List.take_succ_cons, List.take_zero, Nat.reduceSub, Nat.sub_self, Nat.reduceMul, Nat.mul_one, evL, ne_eq, not_false_eq_true, get_last, set_last, okE, AV.bd, AV.bdL, Bool.and_self, Bool.and_true, Bool.true_and, List.all_cons, List.all_nil, AV.one, lay, List.set_cons_zero, List.append_nil, beq_self_eq_true, List.drop_nil, evP, fillA, Bool.false_xor, Bool.true_xor, Option.map_none, List.cons_append, hdOk, List.set_cons_succ]
  have fin : ∀ (g e : Bool), g = n.group → e = n.even → ∀ B, ∃ r ts, sealR (.agg (ndW { n with group := g, even := e } (.sl tok1 (ints n.path.verbs)) (.sl tok2 (pts n.path.points)) (.sl tok3 (ints n.dashes)) (.sl tok4 (ints n.clip.verbs)) (.sl tok5 (pts n.clip.points)))) ⟨B, tk1 ++ tk3 ++ tk4⟩ = some (r, ts) ∧ ∃ t, ndO r n t ∧ good t 0 ts.length := by
    intro g e hg he B
    subst hg he
    have hr : ndO (.agg (ndW n (.sl tok1 (ints n.path.verbs)) (.sl tok2 (pts n.path.points)) (.sl tok3 (ints n.dashes)) (.sl tok4 (ints n.clip.verbs)) (.sl tok5 (pts n.clip.points)))) n (ts1 ++ ts2 ++ ts3 ++ (ts4 ++ ts5)) :=
      ⟨_, _, _, _, _, ts1, ts2, ts3, ts4, ts5, rfl, ⟨_, rfl, o1⟩, ⟨_, rfl, o2⟩, ⟨_, rfl, o3⟩, ⟨_, rfl, o4⟩, ⟨_, rfl, o5⟩, rfl⟩
    refine ⟨_, _, sealR_of (acc := []) rfl (ndO_own hr) rfl, _, hr, ?_⟩
    simp only [List.map_nil, List.append_nil]
    exact good_app (good_app (by simpa using g1) g3) g4
  refine ite_i (fun hg => ite_i (fun he => ?_) (fun he => ?_)) (fun hg => ite_i (fun he => ?_) (fun he => ?_))
  · exact fin true true hg.symm he.symm _
  · exact fin true false hg.symm (Bool.eq_false_iff.2 he).symm _
  · exact fin false true (Bool.eq_false_iff.2 hg).symm he.symm _
  · exact fin false false (Bool.eq_false_iff.2 hg).symm (Bool.eq_false_iff.2 he).symm _

/-- A list of nodes, handed over. -/
def ndsO : List AV → List Nd → List Nat → Prop
  | [], [], ts => ts = []
  | x :: xs, n :: l, ts => ∃ t1 t2, ndO x n t1 ∧ ndsO xs l t2 ∧ ts = t1 ++ t2
  | _, _, _ => False
theorem ndsO_len : ∀ {xs : List AV} {l : List Nd} {ts : List Nat}, ndsO xs l ts → xs.length = l.length
  | [], [], _, _ => rfl
  | x :: xs, n :: l, ts, h => by
    obtain ⟨t1, t2, -, h2, -⟩ := h
    simp only [List.length_cons, ndsO_len h2]
  | [], _ :: _, _, h => h.elim
  | _ :: _, [], _, h => h.elim
theorem ndsO_snoc {x : AV} {n : Nd} {t : List Nat} (hx : ndO x n t) : ∀ {xs : List AV} {l : List Nd} {ts : List Nat}, ndsO xs l ts → ndsO (xs ++ [x]) (l ++ [n]) (ts ++ t)
  | [], [], _, h => by
    have h : _ = [] := h
    subst h
    exact ⟨t, [], hx, rfl, by simp⟩
  | y :: xs, m :: l, ts, h => by
    obtain ⟨t1, t2, h1, h2, rfl⟩ := h
    exact ⟨t1, t2 ++ t, h1, ndsO_snoc hx h2, by simp⟩
  | [], _ :: _, _, h => h.elim
  | _ :: _, [], _, h => h.elim
theorem ndsO_shift (k : Nat) : ∀ {xs : List AV} {l : List Nd} {ts : List Nat}, ndsO xs l ts → ndsO (shiftL k xs) l (ts.map (· + k))
  | [], [], _, h => by
    have h : _ = [] := h
    subst h
    exact rfl
  | x :: xs, n :: l, ts, h => by
    obtain ⟨t1, t2, h1, h2, rfl⟩ := h
    exact ⟨_, _, ndO_shift k h1, ndsO_shift k h2, List.map_append⟩
  | [], _ :: _, _, h => h.elim
  | _ :: _, [], _, h => h.elim
theorem ndsO_own : ∀ {xs : List AV} {l : List Nd} {ts : List Nat}, ndsO xs l ts → ownL xs = true
  | [], [], _, _ => rfl
  | x :: xs, n :: l, ts, h => by
    obtain ⟨t1, t2, h1, h2, rfl⟩ := h
    simp only [ownL, ndO_own h1, ndsO_own h2, Bool.and_self]
  | [], _ :: _, _, h => h.elim
  | _ :: _, [], _, h => h.elim
theorem ndO_len {x : AV} {n : Nd} {t : List Nat} (h : ndO x n t) : x.cells.length = 31 := by
  obtain ⟨v, p, d, cv, cp, t1, t2, t3, t4, t5, rfl, -⟩ := h
  rfl
theorem ndsO_cl : ∀ {xs : List AV} {l : List Nd} {ts : List Nat}, ndsO xs l ts → ∀ y ∈ xs, y.cells.length = 31
  | [], [], _, _ => fun y hy => by cases hy
  | x :: xs, n :: l, ts, h => by
    obtain ⟨t1, t2, h1, h2, rfl⟩ := h
    intro y hy
    rcases List.mem_cons.1 hy with rfl | hy
    · exact ndO_len h1
    · exact ndsO_cl h2 y hy
  | [], _ :: _, _, h => h.elim
  | _ :: _, [], _, h => h.elim
theorem ndsO_agg : ∀ {xs : List AV} {l : List Nd} {ts : List Nat}, ndsO xs l ts → ∀ y ∈ xs, ∃ cs, y = .agg cs ∧ cs.length = 31
  | [], [], _, _ => fun y hy => by cases hy
  | x :: xs, n :: l, ts, h => by
    obtain ⟨t1, t2, h1, h2, rfl⟩ := h
    intro y hy
    rcases List.mem_cons.1 hy with rfl | hy
    · obtain ⟨v, p, d, cv, cp, t1, t2, t3, t4, t5, rfl, -⟩ := h1
      exact ⟨_, rfl, rfl⟩
    · exact ndsO_agg h2 y hy
  | [], _ :: _, _, h => h.elim
  | _ :: _, [], _, h => h.elim
theorem plain_slO {v : AV} {xs : List AV} {ts : List Nat} (h : slO v xs ts) : plain v = true := by
  obtain ⟨tok, rfl, -⟩ := h
  rfl
theorem ndsO_plain : ∀ {xs : List AV} {l : List Nd} {ts : List Nat}, ndsO xs l ts → (flat xs).all plain = true
  | [], [], _, _ => rfl
  | x :: xs, n :: l, ts, h => by
    obtain ⟨t1, t2, ⟨v, p, d, cv, cp, t1, t2, t3, t4, t5, rfl, h1, h2, h3, h4, h5, rfl⟩, h2', rfl⟩ := h
    show (ndW n v p d cv cp ++ flat xs).all plain = true
    rw [List.all_append, ndsO_plain h2', Bool.and_true]
    obtain ⟨_, rfl, -⟩ := h1
    obtain ⟨_, rfl, -⟩ := h2
    obtain ⟨_, rfl, -⟩ := h3
    obtain ⟨_, rfl, -⟩ := h4
    obtain ⟨_, rfl, -⟩ := h5
    rfl
  | [], _ :: _, _, h => h.elim
  | _ :: _, [], _, h => h.elim

/-- A scene, handed over. -/
def scO (r : AV) (l : List Nd) (ts : List Nat) : Prop := ∃ v xs t1 t2, r = .agg [v] ∧ slO v xs t2 ∧ ndsO xs l t1 ∧ ts = t1 ++ t2

theorem scO_shift {r : AV} {l : List Nd} {ts : List Nat} (k : Nat) (h : scO r l ts) : scO (r.shift k) l (ts.map (· + k)) := by
  obtain ⟨v, xs, t1, t2, rfl, ⟨tok, rfl, ht⟩, hn, rfl⟩ := h
  rcases ht with ⟨rfl, rfl⟩ | ⟨hne, t, rfl, rfl⟩
  · refine ⟨AV.shift k (.sl tok []), [], _, [], rfl, ?_, ndsO_shift k hn, by simp⟩
    cases tok with
    | sh => exact ⟨.sh, rfl, Or.inl ⟨rfl, rfl⟩⟩
    | nl => exact ⟨.nl, rfl, Or.inl ⟨rfl, rfl⟩⟩
    | ow t => exact ⟨.ow (t + k), rfl, Or.inl ⟨rfl, rfl⟩⟩
  · refine ⟨AV.shift k (.sl (.ow t) xs), shiftL k xs, _, [t + k], rfl, ⟨.ow (t + k), rfl, Or.inr ⟨?_, t + k, rfl, rfl⟩⟩, ndsO_shift k hn, by simp⟩
    rw [shiftL_eq]
    simpa using hne

def zeroNd : Nd := ⟨0, 0, false, ⟨0, 0, 0, 0, 0, 0⟩, ⟨[], []⟩, false, 0, [], ⟨0, ⟨0, 0, 0, 0⟩, ⟨0, 0, 0, 0⟩, ⟨0, 0⟩, ⟨0, 0⟩⟩, 0, 0, ⟨[], []⟩⟩
def nzC : List AV := ndW zeroNd (.sl .nl []) (.sl .nl []) (.sl .nl []) (.sl .nl []) (.sl .nl [])

theorem bdL_own {x : AV} {n : Nd} {t : List Nat} (h : ndO x n t) (k : Nat) : x.bd k = true := dat_bd x (own_dat x (ndO_own h))
theorem all_W (n : Nd) (t1 t2 t3 t4 t5 : Tok) (v p d cv cp : List AV) : (ndW n (.sl t1 v) (.sl t2 p) (.sl t3 d) (.sl t4 cv) (.sl t5 cp)).all AV.one = true := rfl

theorem lp20 (l : List Nd) (hl : l.length ≤ 1048576) (hs : ∀ n ∈ l, smN n) (st : List Fr) (Q : Ex → Env → Mem → Prop) :
    ∀ i, i ≤ l.length → ∀ (ns : List AV) (ts : List Nat) (tk : List (Nat × Nat)), ndsO ns (l.take i) ts → good ts 0 tk.length →
      (∀ (e : Env) (ns : List AV) (ts : List Nat) (tk : List (Nat × Nat)), e 3 = .bsl 0 0 l.length 31 true → ndsO ns l ts → good ts 0 tk.length → WE T (.exit 0) st e ⟨[flat ns], tk⟩ Q) →
      WL T [0, 3, 4] f20L0 st (upd (upd (upd bot 4 (i64 i)) 3 (.bsl 0 0 l.length 31 true)) 0 (.sl .sh (nds l))) ⟨[fl ns (.agg nzC) (l.length - i)], tk⟩ Q := by
  have hlen : (nds l).length = l.length := by simp [nds]
  refine upto _ ?_ fun i hi ih ns ts tk hns hg hx => ?_
  · intro ns ts tk hns hg hx
    rw [List.take_length] at hns
    rw [WL_go (a := f20L0) (b := f20L0b) rfl]
    rw [Nat.sub_self, fl_n]
    simp only [f20L0b, hlen, Int.lt_irrefl, W_start, ↓WS_seq, ↓WS_reg, ↓WS_cond, ↓WS_ret, ↓WS_skip, ↓WS_exit, ↓WS_block, ↓WS_loop, ↓WE_nil, ↓WE_sq_n, ↓WE_sq_r, ↓WE_sq_x, ↓WE_bk_n, ↓WE_bk_r, ↓WE_bk_x, ↓WE_lp_n, ↓WE_lp_r, ↓WE_lp_x, ↓WR_nil, ↓WR_cons, ↓WR_guard, WV_some, WT_bool, WT_int, WT_str, WT_nil, WT_ptr, WT_adr, WT_sl, WT_agg, WT_tup, WT_fn, WT_bsl, WT_und, WT_any, WC_bool, WG_bool, WG_und, SOp.ev, X.ev, updO_some, updO_none, ↓upd_same, ↓upd_ne, ↓reduceIte, pick, argEnv_cons, argEnv_nil, bot_at, endQ, resL, resA, oneOrTup, abin, ibin, Nat.reduceEqDiff, if_true, if_false, Option.map_some, seal_bool, seal_int, cond_true, cond_false, Bool.false_eq_true, reduceCtorEq, decide_eq_true_eq, and_self, and_true, true_and, AV.known, AV.cells, cut, List.length_cons, List.length_nil, List.length_map, List.drop_zero, List.drop_succ_cons, List.getElem?_cons_zero, List.getElem?_cons_succ, List.getElem?_append_right, List.getElem?_map, Nat.zero_add, Nat.add_zero, Nat.reduceAdd, Nat.reduceLeDiff, Nat.le_refl, List.nil_append, List.length_append, Int.toNat_natCast, Int.natCast_nonneg, Bool.not_true, Bool.not_false, beq_iff_eq, List.take_succ_cons, List.take_zero, Nat.reduceSub, Nat.sub_self, Nat.reduceMul, Nat.mul_one, evL, ne_eq, not_false_eq_true, get_last, set_last, okE, AV.bd, AV.bdL, Bool.and_self, Bool.and_true, Bool.true_and, List.all_cons, List.all_nil, AV.one, lay, List.set_cons_zero, List.append_nil, beq_self_eq_true, List.drop_nil, evP, fillA, Bool.false_xor, Bool.true_xor, Option.map_none, List.cons_append, hdOk, List.set_cons_succ]
    exact hx _ ns ts tk rfl hns hg
  · have hget : l[i]? = some l[i] := List.getElem?_eq_getElem hi
    have hnds : (nds l)[i]? = some (.agg (ndC l[i])) := by simp only [nds, List.getElem?_map, hget, Option.map_some, ndE]
    have hlt' : (i : Int) < l.length := by omega
    have hw1 : IntKind.i64.wrap ((i : Int) + 1) = i + 1 := wrap_ok (by omega)
    have hti : ns.length = i := by rw [ndsO_len hns, List.length_take]; omega
    obtain ⟨_, tk1, ts1, hn1, g1, h41⟩ := own41 l[i] (hs _ (List.getElem_mem hi)) tk
    have hnx := ndsO_snoc hn1 hns
    have hst := fl_step (ns := ns) (z := .agg nzC) (sz := 31) (m := l.length - (i + 1)) (i := i) (ndsO_cl hns) rfl (ndO_len hn1) hti
    have hfl := fl_len (ns := ns) (z := .agg nzC) (sz := 31) (m := l.length - i) (ndsO_cl hns) rfl
    have htl : l.take (i + 1) = l.take i ++ [l[i]] := by rw [List.take_add_one, hget]; rfl
    rw [htl] at ih
    rw [show l.length - (i + 1) + 1 = l.length - i by omega] at hst
    rw [hti] at hfl
    obtain ⟨v, p, d, cv, cp, t1, t2, t3, t4, t5, rfl, ⟨k1, rfl, o1⟩, ⟨k2, rfl, o2⟩, ⟨k3, rfl, o3⟩, ⟨k4, rfl, o4⟩, ⟨k5, rfl, o5⟩, ho⟩ := hn1
    have h41' := fun fl B => h41 fl B (.agg (ndC l[i])) (snap_nd' _ _)
    have hbd := fun k => bdL_own (x := .agg (ndW l[i] (.sl k1 (ints l[i].path.verbs)) (.sl k2 (pts l[i].path.points)) (.sl k3 (ints l[i].dashes)) (.sl k4 (ints l[i].clip.verbs)) (.sl k5 (pts l[i].clip.points)))) ⟨_, _, _, _, _, t1, t2, t3, t4, t5, rfl, ⟨k1, rfl, o1⟩, ⟨k2, rfl, o2⟩, ⟨k3, rfl, o3⟩, ⟨k4, rfl, o4⟩, ⟨k5, rfl, o5⟩, ho⟩ k
    simp only [AV.bd] at hbd
    have hih := ih _ _ (tk ++ tk1) hnx (good_app hg g1) hx
    have hal := all_W l[i] k1 k2 k3 k4 k5 (ints l[i].path.verbs) (pts l[i].path.points) (ints l[i].dashes) (ints l[i].clip.verbs) (pts l[i].clip.points)
    have hwl : (ndW l[i] (.sl k1 (ints l[i].path.verbs)) (.sl k2 (pts l[i].path.points)) (.sl k3 (ints l[i].dashes)) (.sl k4 (ints l[i].clip.verbs)) (.sl k5 (pts l[i].clip.points))).length = 31 := rfl
    generalize ndW l[i] (.sl k1 (ints l[i].path.verbs)) (.sl k2 (pts l[i].path.points)) (.sl k3 (ints l[i].dashes)) (.sl k4 (ints l[i].clip.verbs)) (.sl k5 (pts l[i].clip.points)) = W at *
    generalize fl ns (.agg nzC) (l.length - i) = C at *
    generalize fl (ns ++ [.agg W]) (.agg nzC) (l.length - (i + 1)) = C' at *
    have hle : i * 31 + 31 ≤ C.length := by omega
    simp only [AV.cells] at hst
    rw [WL_go (a := f20L0) (b := f20L0b) rfl]
    simp only [f20L0b, hnds, hlen, hlt', hw1, hle, hst, h41', hbd, hal, hwl, len_nd, ↓cut_nd, all_nd, bdL_nd, ↓lay_nd, nd_0, nd_1, nd_2, List.getElem?_drop, List.length_drop, bdL_ints, bdL_pts, W_start, ↓WS_seq, ↓WS_reg, ↓WS_cond, ↓WS_ret, ↓WS_skip, ↓WS_exit, ↓WS_block, ↓WS_loop, ↓WE_nil, ↓WE_sq_n, ↓WE_sq_r, ↓WE_sq_x, ↓WE_bk_n, ↓WE_bk_r, ↓WE_bk_x, ↓WE_lp_n, ↓WE_lp_r, ↓WE_lp_x, ↓WR_nil, ↓WR_cons, ↓WR_guard, WV_some, WT_bool, WT_int, WT_str, WT_nil, WT_ptr, WT_adr, WT_sl, WT_agg, WT_tup, WT_fn, WT_bsl, WT_und, WT_any, WC_bool, WG_bool, WG_und, SOp.ev, X.ev, updO_some, updO_none, ↓upd_same, ↓upd_ne, ↓reduceIte, pick, argEnv_cons, argEnv_nil, bot_at, endQ, resL, resA, oneOrTup, abin, ibin, Nat.reduceEqDiff, if_true, if_false, Option.map_some, seal_bool, seal_int, cond_true, cond_false, Bool.false_eq_true, reduceCtorEq, decide_eq_true_eq, and_self, and_true, true_and, AV.known, AV.cells, cut, List.length_cons, List.length_nil, List.length_map, List.drop_zero, List.drop_succ_cons, List.getElem?_cons_zero, List.getElem?_cons_succ, List.getElem?_append_right, List.getElem?_map, Nat.zero_add, Nat.add_zero, Nat.reduceAdd, Nat.reduceLeDiff, Nat.le_refl, List.nil_append, List.length_append, Int.toNat_natCast, Int.natCast_nonneg, Bool.not_true, Bool.not_false, beq_iff_eq, List.take_succ_cons, List.take_zero, Nat.reduceSub, Nat.sub_self, Nat.reduceMul, Nat.mul_one, evL, ne_eq, not_false_eq_true, get_last, set_last, okE, AV.bd, AV.bdL, Bool.and_self, Bool.and_true, Bool.true_and, List.all_cons, List.all_nil, AV.one, lay, List.set_cons_zero, List.append_nil, beq_self_eq_true, List.drop_nil, evP, fillA, Bool.false_xor, Bool.true_xor, Option.map_none, List.cons_append, hdOk, List.set_cons_succ]
    exact hih

def lsO (l : List Nd) (v : AV) (ts : List Nat) : Prop := ∃ xs t1 t2, slO v xs t2 ∧ ndsO xs l t1 ∧ ts = t1 ++ t2
theorem lsO_shift {r : AV} {l : List Nd} {ts : List Nat} (k : Nat) (h : lsO l r ts) : lsO l (r.shift k) (ts.map (· + k)) := by
  obtain ⟨xs, t1, t2, h1, h2, rfl⟩ := h
  obtain ⟨v, xs', s1, s2, hr, h3, h4, h5⟩ := scO_shift k (r := .agg [r]) ⟨r, xs, t1, t2, rfl, h1, h2, rfl⟩
  simp only [AV.shift, shiftL, AV.agg.injEq, List.cons.injEq, and_true] at hr
  exact ⟨xs', s1, s2, by rw [hr]; exact h3, h4, h5⟩

theorem own20 (l : List Nd) (hl : l.length ≤ 1048576) (hs : ∀ n ∈ l, smN n) : ∀ tk0 : List (Nat × Nat),
    ∃ v tk ts, lsO l v ts ∧ good ts tk0.length (tk0 ++ tk).length ∧ ∀ (fl : Bool) (B : List (List AV)) (a : AV), snapN 6 ⟨B, tk0⟩ a = some (.sl .sh (nds l)) → Cl T fl 20 [a] ⟨B, tk0⟩ = some (v, ⟨B, tk0 ++ tk⟩) := by
  refine own_g (s := f20S) T_e20 T_f20 rfl (Nat.le_of_ble_eq_true rfl) (fun r ts k h => lsO_shift k h) ?_
  have hlen : (nds l).length = l.length := by simp [nds]
  have h8 : (l.length : Int) * ((328 : Nat) : Int) ≤ 140737488355328 := by omega
  have h9 : (l.length : Int) ≤ 9223372036854775807 := by omega
  simp only [f20S, f20B, hlen, h8, h9, AV.isAgg, W_start, ↓WS_seq, ↓WS_reg, ↓WS_cond, ↓WS_ret, ↓WS_skip, ↓WS_exit, ↓WS_block, ↓WS_loop, ↓WE_nil, ↓WE_sq_n, ↓WE_sq_r, ↓WE_sq_x, ↓WE_bk_n, ↓WE_bk_r, ↓WE_bk_x, ↓WE_lp_n, ↓WE_lp_r, ↓WE_lp_x, ↓WR_nil, ↓WR_cons, ↓WR_guard, WV_some, WT_bool, WT_int, WT_str, WT_nil, WT_ptr, WT_adr, WT_sl, WT_agg, WT_tup, WT_fn, WT_bsl, WT_und, WT_any, WC_bool, WG_bool, WG_und, SOp.ev, X.ev, updO_some, updO_none, ↓upd_same, ↓upd_ne, ↓reduceIte, pick, argEnv_cons, argEnv_nil, bot_at, endQ, resL, resA, oneOrTup, abin, ibin, Nat.reduceEqDiff, if_true, if_false, Option.map_some, seal_bool, seal_int, cond_true, cond_false, Bool.false_eq_true, reduceCtorEq, decide_eq_true_eq, and_self, and_true, true_and, AV.known, AV.cells, cut, List.length_cons, List.length_nil, List.length_map, List.drop_zero, List.drop_succ_cons, List.getElem?_cons_zero, List.getElem?_cons_succ, List.getElem?_append_right, List.getElem?_map, Nat.zero_add, Nat.add_zero, Nat.reduceAdd, Nat.reduceLeDiff, Nat.le_refl, List.nil_append, List.length_append, Int.toNat_natCast, Int.natCast_nonneg, Bool.not_true, Bool.not_false, beq_iff_eq, List.take_succ_cons, List.take_zero, Nat.reduceSub, Nat.sub_self, Nat.reduceMul, Nat.mul_one, evL, ne_eq, not_false_eq_true, get_last, set_last, okE, AV.bd, AV.bdL, Bool.and_self, Bool.and_true, Bool.true_and, List.all_cons, List.all_nil, AV.one, lay, List.set_cons_zero, List.append_nil, beq_self_eq_true, List.drop_nil, evP, fillA, Bool.false_xor, Bool.true_xor, Option.map_none, List.cons_append, hdOk, List.set_cons_succ]
  have h0 := lp20 l hl hs
  refine h0 _ _ 0 (Nat.zero_le _) [] [] [] rfl (good_nil (Nat.zero_le _)) (fun e ns ts tk he hns hg => ?_)
  simp only [he, W_start, ↓WS_seq, ↓WS_reg, ↓WS_cond, ↓WS_ret, ↓WS_skip, ↓WS_exit, ↓WS_block, ↓WS_loop, ↓WE_nil, ↓WE_sq_n, ↓WE_sq_r, ↓WE_sq_x, ↓WE_bk_n, ↓WE_bk_r, ↓WE_bk_x, ↓WE_lp_n, ↓WE_lp_r, ↓WE_lp_x, ↓WR_nil, ↓WR_cons, ↓WR_guard, WV_some, WT_bool, WT_int, WT_str, WT_nil, WT_ptr, WT_adr, WT_sl, WT_agg, WT_tup, WT_fn, WT_bsl, WT_und, WT_any, WC_bool, WG_bool, WG_und, SOp.ev, X.ev, updO_some, updO_none, ↓upd_same, ↓upd_ne, ↓reduceIte, pick, argEnv_cons, argEnv_nil, bot_at, endQ, resL, resA, oneOrTup, abin, ibin, Nat.reduceEqDiff, if_true, if_false, Option.map_some, seal_bool, seal_int, cond_true, cond_false, Bool.false_eq_true, reduceCtorEq, decide_eq_true_eq, and_self, and_true, true_and, AV.known, AV.cells, cut, List.length_cons, List.length_nil, List.length_map, List.drop_zero, List.drop_succ_cons, List.getElem?_cons_zero, List.getElem?_cons_succ, List.getElem?_append_right, List.getElem?_map, Nat.zero_add, Nat.add_zero, Nat.reduceAdd, Nat.reduceLeDiff, Nat.le_refl, List.nil_append, List.length_append, Int.toNat_natCast, Int.natCast_nonneg, Bool.not_true, Bool.not_false, beq_iff_eq, List.take_succ_cons, List.take_zero, Nat.reduceSub, Nat.sub_self, Nat.reduceMul, Nat.mul_one, evL, ne_eq, not_false_eq_true, get_last, set_last, okE, AV.bd, AV.bdL, Bool.and_self, Bool.and_true, Bool.true_and, List.all_cons, List.all_nil, AV.one, lay, List.set_cons_zero, List.append_nil, beq_self_eq_true, List.drop_nil, evP, fillA, Bool.false_xor, Bool.true_xor, Option.map_none, List.cons_append, hdOk, List.set_cons_succ]
  rcases Nat.eq_zero_or_pos l.length with hz | hz
  · obtain rfl : l = [] := List.length_eq_zero_iff.1 hz
    exact ⟨_, _, sealR_of (acc := []) rfl rfl rfl, [], ⟨[], [], [], ⟨.sh, rfl, Or.inl ⟨rfl, rfl⟩⟩, rfl, rfl⟩, good_nil (Nat.zero_le _)⟩
  · have hnl := ndsO_len hns
    have hne : ns ≠ [] := fun h => by rw [← hnl, h] at hz; exact Nat.lt_irrefl _ hz
    have := seal_bsl (M := ⟨[flat ns], tk⟩) (b := 0) (sz := 31) (ag := true) (xs := ns) (acc := []) 5 hne rfl (flat_len 31 _ (ndsO_cl hns)) (mapA_plain 4 _ _ [] (ndsO_plain hns)) (ys := ns) (by simp only [elems, if_true, chunk_flat 31 _ (ndsO_agg hns)])
    rw [hnl] at this
    refine ⟨_, _, sealR_of this (by simp only [own, ndsO_own hns]) rfl, ts ++ [tk.length], ⟨ns, ts, [tk.length], ⟨_, rfl, Or.inr ⟨hne, tk.length, rfl, rfl⟩⟩, hns, rfl⟩, ?_⟩
    simp only [List.nil_append, List.map_cons, List.map_nil, List.length_append, List.length_cons, List.length_nil, Nat.zero_add]
    exact good_app hg (good_one (Nat.le_refl _) (by omega))

/-! ### A scene for the caller's boxes -/
theorem box_ex {f : FuncId} {s : SFun} {ar : List AV} {P : AV → List (Nat × Nat) → Prop} (h1 : T.ext f = none) (h2 : T.fn f = some s) (h3 : s.mode = .box) (hn : ar.length ≤ s.nt)
    (h : W T s.body (argEnv 0 ar) ⟨[], []⟩ (endQ s fun v M' => ∃ r ts, sealR v M' = some (r, ts) ∧ P r ts)) :
    ∃ r ts, P r ts ∧ ∀ (fl : Bool) (M : Mem) (args : List AV) (r' : AV) (bs : List (List AV)), snapL M args = some ar → boxR M.boxes.length r = some (r', bs) → Cl T fl f args M = some (r', ⟨M.boxes ++ bs, M.toks⟩) := by
  obtain ⟨v, M', hr, r, ts, hq, hP⟩ := runF_W hn h
  refine ⟨r, ts, hP, fun fl M args r' bs hs hb => ?_⟩
  unfold Cl clD
  simp only [h1, h2, h3, hs]
  unfold runOwn
  rw [hr]
  simp only [hq, hb]
theorem scO_own {r : AV} {l : List Nd} {ts : List Nat} (h : scO r l ts) : own r = true := by
  obtain ⟨v, xs, t1, t2, rfl, h1, h2, rfl⟩ := h
  simp only [own, ownL, slO_own h1 (ndsO_own h2), Bool.and_self]
theorem scO_seal {r : AV} {l : List Nd} {ts : List Nat} (h : scO r l ts) (M : Mem) : sealR r M = some (r, M.toks) := by
  have ho := scO_own h
  obtain ⟨v, xs, t1, t2, rfl, ⟨tok, rfl, -⟩, h2, rfl⟩ := h
  have := sealR_of (M := M) (v := .agg [.sl tok xs]) (acc := []) rfl ho rfl
  simpa using this

theorem box7 (l : List Nd) (hl : l.length ≤ 1048576) (hs : ∀ n ∈ l, smN n) :
    ∃ r ts, (scO r l ts ∧ ts.Nodup) ∧ ∀ (fl : Bool) (M : Mem) (args : List AV) (r' : AV) (bs : List (List AV)), snapL M args = some [scE l] → boxR M.boxes.length r = some (r', bs) → Cl T fl 7 args M = some (r', ⟨M.boxes ++ bs, M.toks⟩) := by
  obtain ⟨r, tk, ⟨ts, hts⟩, h⟩ := box_ex (f := 7) (s := f7S) (ar := [scE l]) (P := fun r _ => ∃ ts, scO r l ts ∧ ts.Nodup) T_e7 T_f7 rfl (Nat.le_of_ble_eq_true rfl) (by
    obtain ⟨_, tk1, _, ⟨xs, t1, t2, ⟨tok, rfl, o1⟩, o2, rfl⟩, g1, h1⟩ := own20 l hl hs []
    have h1' := fun fl B => h1 fl B (.sl .sh (nds l)) (snap_nds 5 _ _ _)
    have hbd : ∀ k, bdL k xs = true := fun k => datL_bdL _ (ownL_datL _ (ndsO_own o2))
    simp only [f7S, f7B, scE, h1', hbd, List.nil_append, len_nd, ↓cut_nd, all_nd, bdL_nd, ↓lay_nd, nd_0, nd_1, nd_2, List.getElem?_drop, List.length_drop, bdL_ints, bdL_pts, W_start, ↓WS_seq, ↓WS_reg, ↓WS_cond, ↓WS_ret, ↓WS_skip, ↓WS_exit, ↓WS_block, ↓WS_loop, ↓WE_nil, ↓WE_sq_n, ↓WE_sq_r, ↓WE_sq_x, ↓WE_bk_n, ↓WE_bk_r, ↓WE_bk_x, ↓WE_lp_n, ↓WE_lp_r, ↓WE_lp_x, ↓WR_nil, ↓WR_cons, ↓WR_guard, WV_some, WT_bool, WT_int, WT_str, WT_nil, WT_ptr, WT_adr, WT_sl, WT_agg, WT_tup, WT_fn, WT_bsl, WT_und, WT_any, WC_bool, WG_bool, WG_und, SOp.ev, X.ev, updO_some, updO_none, ↓upd_same, ↓upd_ne, ↓reduceIte, pick, argEnv_cons, argEnv_nil, bot_at, endQ, resL, resA, oneOrTup, abin, ibin, Nat.reduceEqDiff, if_true, if_false, Option.map_some, seal_bool, seal_int, cond_true, cond_false, Bool.false_eq_true, reduceCtorEq, decide_eq_true_eq, and_self, and_true, true_and, AV.known, AV.cells, cut, List.length_cons, List.length_nil, List.length_map, List.drop_zero, List.drop_succ_cons, List.getElem?_cons_zero, List.getElem?_cons_succ, List.getElem?_append_right, List.getElem?_map, Nat.zero_add, Nat.add_zero, Nat.reduceAdd, Nat.reduceLeDiff, Nat.le_refl, List.nil_append, List.length_append, Int.toNat_natCast, Int.natCast_nonneg, Bool.not_true, Bool.not_false, beq_iff_eq, List.take_succ_cons, List.take_zero, Nat.reduceSub, Nat.sub_self, Nat.reduceMul, Nat.mul_one, evL, ne_eq, not_false_eq_true, get_last, set_last, okE, AV.bd, AV.bdL, Bool.and_self, Bool.and_true, Bool.true_and, List.all_cons, List.all_nil, AV.one, lay, List.set_cons_zero, List.append_nil, beq_self_eq_true, List.drop_nil, evP, fillA, Bool.false_xor, Bool.true_xor, Option.map_none, List.cons_append, hdOk, List.set_cons_succ]
    have hr : scO (.agg [.sl tok xs]) l (t1 ++ t2) := ⟨_, xs, t1, t2, rfl, ⟨tok, rfl, o1⟩, o2, rfl⟩
    exact ⟨_, _, scO_seal hr _, _, hr, g1.2.1⟩)
  exact ⟨r, ts, hts, h⟩
end Go.Proofs.Ytnehpfaafgnnpaa

namespace Go.Proofs.Ytnehpfaafgnnpaa
open Go.AM Go.AM.AV

def slB (B : List (List AV)) (v : AV) (xs : List AV) (sz : Nat) (ag : Bool) (bs : List Nat) : Prop :=
  (v = .sl .sh [] ∧ xs = [] ∧ bs = []) ∨ ∃ b, v = .bsl b 0 xs.length sz ag ∧ xs ≠ [] ∧ B[b]? = some (flat xs) ∧ bs = [b]
def ndB (B : List (List AV)) (x : AV) (n : Nd) (bs : List Nat) : Prop := ∃ v p d cv cp b1 b2 b3 b4 b5, x = .agg (ndW n v p d cv cp) ∧ slB B v (ints n.path.verbs) 1 false b1 ∧ slB B p (pts n.path.points) 2 true b2 ∧
  slB B d (ints n.dashes) 1 false b3 ∧ slB B cv (ints n.clip.verbs) 1 false b4 ∧ slB B cp (pts n.clip.points) 2 true b5 ∧ bs = b1 ++ b2 ++ b3 ++ (b4 ++ b5)
def ndsB (B : List (List AV)) : List AV → List Nd → List Nat → Prop
  | [], [], bs => bs = []
  | x :: xs, n :: l, bs => ∃ b1 b2, ndB B x n b1 ∧ ndsB B xs l b2 ∧ bs = b1 ++ b2
  | _, _, _ => False
def scB (B : List (List AV)) (s : AV) (l : List Nd) (bs : List Nat) : Prop :=
  (s = .agg [.sl .sh []] ∧ l = [] ∧ bs = []) ∨ ∃ b xs b1, s = .agg [.bsl b 0 l.length 31 true] ∧ l ≠ [] ∧ B[b]? = some (flat xs) ∧ ndsB B xs l b1 ∧ bs = b1 ++ [b] ∧ ∀ k ∈ b1, k < b

/-! ### Boxing -/
abbrev Acc := List ((Nat × Nat) × List AV)
def pl (F : List (List AV)) (base : Nat) (acc : Acc) : Prop := ∀ (j : Nat) e, acc[j]? = some e → F[base + j]? = some e.2
theorem pl_pre {F : List (List AV)} {base : Nat} {a b : Acc} (h : pl F base (a ++ b)) : pl F base a := fun j e he => h j e (by
  rw [List.getElem?_append_left (List.getElem?_eq_some_iff.1 he).1]; exact he)
def scal : AV → Bool
  | .int _ _ | .bool _ | .str _ | .nil => true
  | _ => false
theorem box_scal {c : AV} (h : scal c = true) (k base : Nat) (acc : Acc) : boxN (k + 1) base c acc = some (c, acc) := by
  cases c <;> first | rfl | cases h
theorem mapA_scal (k base : Nat) : ∀ (cs : List AV) (acc : Acc), cs.all scal = true → mapA (boxN (k + 1) base) cs acc = some (cs, acc)
  | [], acc, _ => rfl
  | c :: r, acc, h => by
    simp only [List.all_cons, Bool.and_eq_true] at h
    simp only [mapA, box_scal h.1, mapA_scal k base r acc h.2]
theorem mapA_app {σ : Type} (f : AV → σ → Option (AV × σ)) : ∀ (a b : List AV) (s : σ) {x y : List AV} {s1 s2 : σ}, mapA f a s = some (x, s1) → mapA f b s1 = some (y, s2) → mapA f (a ++ b) s = some (x ++ y, s2)
  | [], b, s, x, y, s1, s2, h1, h2 => by
    simp only [mapA, Option.some.injEq, Prod.mk.injEq] at h1
    obtain ⟨rfl, rfl⟩ := h1
    exact h2
  | c :: r, b, s, x, y, s1, s2, h1, h2 => by
    simp only [mapA] at h1
    split at h1
    · rename_i c' s' hc
      split at h1
      · rename_i l' s'' hl
        simp only [Option.some.injEq, Prod.mk.injEq] at h1
        obtain ⟨rfl, rfl⟩ := h1
        simp only [List.cons_append, mapA, hc, mapA_app f r b s' hl h2]
      · cases h1
    · cases h1
theorem scal_ints (l : List Int) : (flat (ints l)).all scal = true := by
  rw [flat_ints]; simp [ints, scal]
theorem scal_pts : ∀ l : List Pt, (flat (pts l)).all scal = true
  | [] => rfl
  | x :: r => by
    have := scal_pts r
    show ((ptE x).cells ++ flat (pts r)).all scal = true
    simp only [ptE, AV.cells, List.all_append, List.all_cons, scal, List.all_nil, this, Bool.and_self]
theorem agg_ints (l : List Int) : ∀ x ∈ ints l, x.isAgg = false := by
  intro x hx; simp only [ints, List.mem_map] at hx; obtain ⟨n, -, rfl⟩ := hx; rfl
theorem agg_pts (l : List Pt) : ∀ x ∈ pts l, x.isAgg = true := by
  intro x hx; simp only [pts, List.mem_map] at hx; obtain ⟨n, -, rfl⟩ := hx; rfl

theorem boxN_sl {k base t : Nat} {x : AV} {xs : List AV} {acc acc' : Acc} {cs : List AV} (h : mapA (boxN k base) (flat (x :: xs)) acc = some (cs, acc')) :
    boxN (k + 1) base (.sl (.ow t) (x :: xs)) acc = some (.bsl (base + acc'.length) 0 (xs.length + 1) x.cells.length x.isAgg, acc' ++ [((t, xs.length + 1), cs)]) := by
  rw [boxN.eq_def]
  simp only [h]
theorem boxN_agg1 {k base : Nat} {x y : AV} {acc acc' : Acc} (h : boxN k base x acc = some (y, acc')) : boxN (k + 1) base (.agg [x]) acc = some (.agg [y], acc') := by
  rw [boxN.eq_def]
  simp only [mapA, h, Option.map_some]

theorem box_sl {v : AV} {xs : List AV} {ts : List Nat} (h : slO v xs ts) {sz : Nat} {ag : Bool} (hs : (flat xs).all scal = true) (hc : ∀ x ∈ xs, x.cells.length = sz) (ha : ∀ x ∈ xs, x.isAgg = ag) (k base : Nat) (acc : Acc) :
    ∃ v' new bs, boxN (k + 2) base v acc = some (v', acc ++ new) ∧ new.map (·.1.1) = ts ∧ good bs (base + acc.length) (base + (acc ++ new).length) ∧ ∀ F, pl F base (acc ++ new) → slB F v' xs sz ag bs := by
  obtain ⟨tok, rfl, ⟨rfl, rfl⟩ | ⟨hne, t, rfl, rfl⟩⟩ := h
  · refine ⟨.sl .sh [], [], [], ?_, rfl, good_nil (by simp), fun F _ => Or.inl ⟨rfl, rfl, rfl⟩⟩
    rw [List.append_nil]
    cases tok <;> rfl
  · cases xs with
    | nil => exact absurd rfl hne
    | cons x r =>
      refine ⟨.bsl (base + acc.length) 0 (r.length + 1) sz ag, [((t, r.length + 1), flat (x :: r))], [base + acc.length], ?_, rfl, good_one (Nat.le_refl _) (by simp), fun F hF => Or.inr ⟨base + acc.length, rfl, hne, ?_, rfl⟩⟩
      · rw [boxN_sl (mapA_scal k base _ acc hs), hc x List.mem_cons_self, ha x List.mem_cons_self]
      · exact hF acc.length ((t, r.length + 1), flat (x :: r)) (by simp)

theorem box_nd {x : AV} {n : Nd} {ts : List Nat} (h : ndO x n ts) (k base : Nat) (acc : Acc) :
    ∃ x' new bs, mapA (boxN (k + 2) base) x.cells acc = some (x'.cells, acc ++ new) ∧ new.map (·.1.1) = ts ∧ good bs (base + acc.length) (base + (acc ++ new).length) ∧ ∀ F, pl F base (acc ++ new) → ndB F x' n bs := by
  obtain ⟨v, p, d, cv, cp, t1, t2, t3, t4, t5, rfl, h1, h2, h3, h4, h5, rfl⟩ := h
  obtain ⟨v1, n1, b1, e1, m1, g1, q1⟩ := box_sl h1 (scal_ints _) (ints_cl _) (agg_ints _) k base acc
  obtain ⟨v2, n2, b2, e2, m2, g2, q2⟩ := box_sl h2 (scal_pts _) (pts_cl _) (agg_pts _) k base (acc ++ n1)
  obtain ⟨v3, n3, b3, e3, m3, g3, q3⟩ := box_sl h3 (scal_ints _) (ints_cl _) (agg_ints _) k base (acc ++ n1 ++ n2)
  obtain ⟨v4, n4, b4, e4, m4, g4, q4⟩ := box_sl h4 (scal_ints _) (ints_cl _) (agg_ints _) k base (acc ++ n1 ++ n2 ++ n3)
  obtain ⟨v5, n5, b5, e5, m5, g5, q5⟩ := box_sl h5 (scal_pts _) (pts_cl _) (agg_pts _) k base (acc ++ n1 ++ n2 ++ n3 ++ n4)
  have hacc : acc ++ (n1 ++ n2 ++ n3 ++ (n4 ++ n5)) = acc ++ n1 ++ n2 ++ n3 ++ n4 ++ n5 := by simp only [List.append_assoc]
  refine ⟨.agg (ndW n v1 v2 v3 v4 v5), n1 ++ n2 ++ n3 ++ (n4 ++ n5), b1 ++ b2 ++ b3 ++ (b4 ++ b5), ?_, ?_, ?_, ?_⟩
  · rw [hacc]
    simp only [AV.cells, ndW, mapA, box_scal (c := i64 _) rfl, box_scal (c := .bool _) rfl, e1, e2, e3, e4, e5]
  · simp only [List.map_append, m1, m2, m3, m4, m5]
  · rw [hacc]
    exact good_app (good_app (good_app g1 g2) g3) (good_app g4 g5)
  · intro F hF
    rw [hacc] at hF
    have f4 := pl_pre hF
    have f3 := pl_pre f4
    have f2 := pl_pre f3
    have f1 := pl_pre f2
    exact ⟨v1, v2, v3, v4, v5, b1, b2, b3, b4, b5, rfl, q1 F f1, q2 F f2, q3 F f3, q4 F f4, q5 F hF, rfl⟩

theorem box_nds (k base : Nat) : ∀ {xs : List AV} {l : List Nd} {ts : List Nat} (_ : ndsO xs l ts) (acc : Acc),
    ∃ xs' new bs, mapA (boxN (k + 2) base) (flat xs) acc = some (flat xs', acc ++ new) ∧ new.map (·.1.1) = ts ∧ good bs (base + acc.length) (base + (acc ++ new).length) ∧ ∀ F, pl F base (acc ++ new) → ndsB F xs' l bs
  | [], [], ts, h, acc => by
    have h : ts = [] := h
    subst h
    exact ⟨[], [], [], by rw [List.append_nil]; rfl, rfl, good_nil (by simp), fun F _ => rfl⟩
  | x :: xs, n :: l, ts, h, acc => by
    obtain ⟨t1, t2, h1, h2, rfl⟩ := h
    obtain ⟨x', n1, b1, e1, m1, g1, q1⟩ := box_nd h1 k base acc
    obtain ⟨xs', n2, b2, e2, m2, g2, q2⟩ := box_nds k base h2 (acc ++ n1)
    refine ⟨x' :: xs', n1 ++ n2, b1 ++ b2, ?_, by simp only [List.map_append, m1, m2], ?_, fun F hF => ?_⟩
    · rw [← List.append_assoc]
      exact mapA_app _ _ _ _ e1 e2
    · rw [← List.append_assoc]
      exact good_app g1 g2
    · rw [← List.append_assoc] at hF
      exact ⟨b1, b2, q1 F (pl_pre hF), q2 F hF, rfl⟩
  | [], _ :: _, _, h, _ => h.elim
  | _ :: _, [], _, h, _ => h.elim

theorem distinct_of : ∀ {l : List Nat}, l.Nodup → AM.distinct l = true
  | [], _ => rfl
  | x :: r, h => by
    rw [List.nodup_cons] at h
    simp only [AM.distinct, distinct_of h.2, Bool.and_true, Bool.not_eq_true']
    simpa using h.1

theorem box_scN {r : AV} {l : List Nd} {ts : List Nat} (h : scO r l ts) (k base : Nat) :
    ∃ s new bs, boxN (k + 5) base r [] = some (s, new) ∧ new.map (·.1.1) = ts ∧ good bs base (base + new.length) ∧ ∀ F, pl F base new → scB F s l bs := by
  obtain ⟨v, xs, t1, t2, rfl, ⟨tok, rfl, ho⟩, h2, rfl⟩ := h
  rcases ho with ⟨rfl, rfl⟩ | ⟨hne, t, rfl, rfl⟩
  · have hl : l = [] := by
      have := ndsO_len h2
      exact List.length_eq_zero_iff.1 this.symm
    subst hl
    have h2 : t1 = [] := h2
    subst h2
    refine ⟨.agg [.sl .sh []], [], [], ?_, rfl, good_nil (by simp), fun F hF => Or.inl ⟨rfl, rfl, rfl⟩⟩
    cases tok <;> rfl
  · cases xs with
    | nil => exact absurd rfl hne
    | cons x xs =>
      obtain ⟨xs', new, bs, e, m, g, q⟩ := box_nds (k + 1) base h2 []
      rw [List.nil_append] at e g q
      have hlen := ndsO_len h2
      have hx : x.cells.length = 31 ∧ x.isAgg = true := by
        obtain ⟨cs, rfl, hc⟩ := ndsO_agg h2 x List.mem_cons_self
        exact ⟨hc, rfl⟩
      refine ⟨.agg [.bsl (base + new.length) 0 (xs.length + 1) 31 true], new ++ [((t, xs.length + 1), flat xs')], bs ++ [base + new.length], ?_, ?_, ?_, fun F hF => ?_⟩
      · rw [boxN_agg1 (boxN_sl e), hx.1, hx.2]
      · rw [List.map_append, m]; rfl
      · have := good_app g (good_one (a := base + new.length) (b := base + new.length + 1) (t := base + new.length) (Nat.le_refl _) (by omega))
        simpa [Nat.add_assoc] using this
      · refine Or.inr ⟨base + new.length, xs', bs, by rw [← hlen]; rfl, ?_, hF new.length ((t, xs.length + 1), flat xs') (by simp), q _ (pl_pre hF), rfl, fun k hk => (g.2.2 k hk).2⟩
        intro h
        rw [h] at hlen
        simp at hlen
theorem pl_app {B R : List (List AV)} {base : Nat} (hB : B.length = base) (new : Acc) : pl (B ++ new.map (·.2) ++ R) base new := by
  intro j e he
  have hj := (List.getElem?_eq_some_iff.1 he).1
  rw [List.append_assoc, List.getElem?_append_right (by omega), hB, Nat.add_sub_cancel_left, List.getElem?_append_left (by simpa using hj), List.getElem?_map, he]
  rfl
theorem boxR_of {base : Nat} {r r' : AV} {new : Acc} (h : boxN 6 base r [] = some (r', new)) (hn : (new.map (·.1.1)).Nodup) : boxR base r = some (r', new.map (·.2)) := by
  unfold boxR
  rw [h]
  exact if_pos (distinct_of hn)

theorem box_sc {r : AV} {l : List Nd} {ts : List Nat} (h : scO r l ts) (hn : ts.Nodup) (base : Nat) :
    ∃ s nb bs, boxR base r = some (s, nb) ∧ good bs base (base + nb.length) ∧ ∀ B R, B.length = base → scB (B ++ nb ++ R) s l bs := by
  obtain ⟨s, new, bs, e, m, g, q⟩ := box_scN h 1 base
  exact ⟨s, new.map (·.2), bs, boxR_of e (by rw [m]; exact hn), by simpa using g, fun B R hB => q _ (pl_app hB new)⟩
/-- A scene with a number beside it. -/
theorem box_sci {r : AV} {l : List Nd} {ts : List Nat} (h : scO r l ts) (hn : ts.Nodup) (c : Int) (base : Nat) :
    ∃ s nb bs, boxR base (.tup [r, i64 c]) = some (.tup [s, i64 c], nb) ∧ good bs base (base + nb.length) ∧ ∀ B R, B.length = base → scB (B ++ nb ++ R) s l bs := by
  obtain ⟨s, new, bs, e, m, g, q⟩ := box_scN h 0 base
  have e' : boxN 6 base (.tup [r, i64 c]) [] = some (.tup [s, i64 c], new) := by
    rw [boxN.eq_def]
    simp only [mapA]
    simp only [show boxN 5 base r [] = some (s, new) from e, box_scal (c := i64 c) rfl, Option.map_some]
  exact ⟨s, new.map (·.2), bs, boxR_of e' (by rw [m]; exact hn), by simpa using g, fun B R hB => q _ (pl_app hB new)⟩
end Go.Proofs.Ytnehpfaafgnnpaa

namespace Go.Proofs.Ytnehpfaafgnnpaa
open Go.AM Go.AM.AV

/-! ### Lent -/
theorem mapO_app (f : AV → Option AV) : ∀ (a b : List AV) {x y : List AV}, mapO f a = some x → mapO f b = some y → mapO f (a ++ b) = some (x ++ y)
  | [], b, x, y, h1, h2 => by
    simp only [mapO, Option.some.injEq] at h1
    subst h1
    exact h2
  | c :: r, b, x, y, h1, h2 => by
    simp only [mapO] at h1
    split at h1
    · rename_i c' l' hc hl
      simp only [Option.some.injEq] at h1
      subst h1
      simp only [List.cons_append, mapO, hc, mapO_app f r b hl h2]
    · cases h1
theorem snap_scal {c : AV} (h : scal c = true) (k : Nat) (M : Mem) : snapN (k + 1) M c = some c := by
  cases c <;> first | rfl | cases h
theorem mapO_scal (k : Nat) (M : Mem) : ∀ cs : List AV, cs.all scal = true → mapO (snapN (k + 1) M) cs = some cs
  | [], _ => rfl
  | c :: r, h => by
    simp only [List.all_cons, Bool.and_eq_true] at h
    simp only [mapO, snap_scal h.1, mapO_scal k M r h.2]
theorem snapN_bsl {k : Nat} {M : Mem} {b n sz : Nat} {ag : Bool} {cs l xs : List AV} (hM : M.boxes[b]? = some cs) (hl : cs.length = n * sz) (hm : mapO (snapN k M) cs = some l) (he : elems ag sz n l = some xs) :
    snapN (k + 1) M (.bsl b 0 n sz ag) = some (.sl .sh xs) := by
  have h1 : (cs.drop 0).take (n * sz) = cs := by rw [List.drop_zero, ← hl, List.take_length]
  rw [snapN.eq_def]
  simp only [hM]
  rw [h1, hm]
  simp only [he, Option.map_some]
  exact if_pos (by omega)
theorem elems_ints (l : List Int) : elems false 1 l.length (ints l) = some (ints l) := by
  simp only [elems, one_ints, and_self, if_true, Bool.false_eq_true, if_false]
theorem elems_pts (l : List Pt) : elems true 2 l.length (flat (pts l)) = some (pts l) := by
  have := chunk_flat 2 _ (pts_agg l)
  rw [show (pts l).length = l.length by simp [pts]] at this
  simp only [elems, if_true, this]
theorem snap_slI {M : Mem} {v : AV} {l : List Int} {bs : List Nat} (h : slB M.boxes v (ints l) 1 false bs) (k : Nat) : snapN (k + 2) M v = some (.sl .sh (ints l)) := by
  have hl : (ints l).length = l.length := by simp [ints]
  rcases h with ⟨rfl, h, -⟩ | ⟨b, rfl, -, hb, -⟩
  · rw [h]; rfl
  · rw [flat_ints] at hb
    have hs : (ints l).all scal = true := by have := scal_ints l; rwa [flat_ints] at this
    rw [hl]
    exact snapN_bsl hb (by omega) (mapO_scal k M _ hs) (elems_ints l)
theorem snap_slP {M : Mem} {v : AV} {l : List Pt} {bs : List Nat} (h : slB M.boxes v (pts l) 2 true bs) (k : Nat) : snapN (k + 2) M v = some (.sl .sh (pts l)) := by
  have hl : (pts l).length = l.length := by simp [pts]
  rcases h with ⟨rfl, h, -⟩ | ⟨b, rfl, -, hb, -⟩
  · rw [h]; rfl
  · rw [hl]
    exact snapN_bsl hb (by rw [flat_len 2 _ (pts_cl l), hl]) (mapO_scal k M _ (scal_pts l)) (elems_pts l)
theorem snap_ndB {M : Mem} {x : AV} {n : Nd} {bs : List Nat} (h : ndB M.boxes x n bs) (k : Nat) : mapO (snapN (k + 2) M) x.cells = some (ndC n) := by
  obtain ⟨v, p, d, cv, cp, b1, b2, b3, b4, b5, rfl, h1, h2, h3, h4, h5, -⟩ := h
  simp only [AV.cells, ndW, mapO, snap_scal (c := i64 _) rfl, snap_scal (c := .bool _) rfl, snap_slI h1, snap_slP h2, snap_slI h3, snap_slI h4, snap_slP h5, ndC]
theorem snap_ndsB {M : Mem} (k : Nat) : ∀ {xs : List AV} {l : List Nd} {bs : List Nat}, ndsB M.boxes xs l bs → mapO (snapN (k + 2) M) (flat xs) = some (flat (nds l))
  | [], [], _, _ => rfl
  | x :: xs, n :: l, bs, h => by
    obtain ⟨b1, b2, h1, h2, -⟩ := h
    exact mapO_app _ _ _ (snap_ndB h1 k) (snap_ndsB k h2)
  | [], _ :: _, _, h => h.elim
  | _ :: _, [], _, h => h.elim
theorem ndB_len {B : List (List AV)} {x : AV} {n : Nd} {bs : List Nat} (h : ndB B x n bs) : ∃ cs, x = .agg cs ∧ cs.length = 31 := by
  obtain ⟨v, p, d, cv, cp, b1, b2, b3, b4, b5, rfl, -⟩ := h
  exact ⟨_, rfl, rfl⟩
theorem ndsB_agg {B : List (List AV)} : ∀ {xs : List AV} {l : List Nd} {bs : List Nat}, ndsB B xs l bs → xs.length = l.length ∧ ∀ y ∈ xs, ∃ cs, y = .agg cs ∧ cs.length = 31
  | [], [], _, _ => ⟨rfl, fun y hy => by cases hy⟩
  | x :: xs, n :: l, bs, h => by
    obtain ⟨b1, b2, h1, h2, -⟩ := h
    have := ndsB_agg h2
    refine ⟨by simp only [List.length_cons, this.1], fun y hy => ?_⟩
    rcases List.mem_cons.1 hy with rfl | hy
    · exact ndB_len h1
    · exact this.2 y hy
  | [], _ :: _, _, h => h.elim
  | _ :: _, [], _, h => h.elim
theorem ndsB_cl {B : List (List AV)} {xs : List AV} {l : List Nd} {bs : List Nat} (h : ndsB B xs l bs) : ∀ y ∈ xs, y.cells.length = 31 := fun y hy => by
  obtain ⟨cs, rfl, hc⟩ := (ndsB_agg h).2 y hy
  exact hc
theorem nds_agg (l : List Nd) : ∀ y ∈ nds l, ∃ cs, y = .agg cs ∧ cs.length = 31 := by
  intro y hy
  simp only [nds, List.mem_map] at hy
  obtain ⟨n, -, rfl⟩ := hy
  exact ⟨_, rfl, rfl⟩
theorem elems_nds (l : List Nd) : elems true 31 l.length (flat (nds l)) = some (nds l) := by
  have := chunk_flat 31 _ (nds_agg l)
  rw [show (nds l).length = l.length by simp [nds]] at this
  simp only [elems, if_true, this]
theorem snap_agg1 {k : Nat} {M : Mem} {x y : AV} (h : snapN k M x = some y) : snapN (k + 1) M (.agg [x]) = some (.agg [y]) := by
  rw [snapN.eq_def]
  simp only [mapO, h, Option.map_some]
theorem snap_scB {M : Mem} {s : AV} {l : List Nd} {bs : List Nat} (h : scB M.boxes s l bs) : snapN 6 M s = some (scE l) := by
  rcases h with ⟨rfl, rfl, -⟩ | ⟨b, xs, b1, rfl, -, hb, hx, -⟩
  · rfl
  · exact snap_agg1 (snapN_bsl hb (by rw [flat_len 31 _ (ndsB_cl hx), (ndsB_agg hx).1]) (snap_ndsB 2 hx) (elems_nds l))

/-! ### Kept -/
theorem slB_keep {B B' : List (List AV)} {v : AV} {xs : List AV} {sz : Nat} {ag : Bool} {bs : List Nat} (h : slB B v xs sz ag bs) (hk : ∀ b ∈ bs, B'[b]? = B[b]?) : slB B' v xs sz ag bs := by
  rcases h with h | ⟨b, h1, h2, h3, rfl⟩
  · exact Or.inl h
  · exact Or.inr ⟨b, h1, h2, by rw [hk b (by simp)]; exact h3, rfl⟩
theorem ndB_keep {B B' : List (List AV)} {x : AV} {n : Nd} {bs : List Nat} (h : ndB B x n bs) (hk : ∀ b ∈ bs, B'[b]? = B[b]?) : ndB B' x n bs := by
  obtain ⟨v, p, d, cv, cp, b1, b2, b3, b4, b5, rfl, h1, h2, h3, h4, h5, rfl⟩ := h
  exact ⟨v, p, d, cv, cp, b1, b2, b3, b4, b5, rfl, slB_keep h1 fun b hb => hk b (by simp [hb]), slB_keep h2 fun b hb => hk b (by simp [hb]), slB_keep h3 fun b hb => hk b (by simp [hb]),
    slB_keep h4 fun b hb => hk b (by simp [hb]), slB_keep h5 fun b hb => hk b (by simp [hb]), rfl⟩
theorem ndsB_keep {B B' : List (List AV)} : ∀ {xs : List AV} {l : List Nd} {bs : List Nat}, ndsB B xs l bs → (∀ b ∈ bs, B'[b]? = B[b]?) → ndsB B' xs l bs
  | [], [], _, h, _ => h
  | x :: xs, n :: l, bs, h, hk => by
    obtain ⟨b1, b2, h1, h2, rfl⟩ := h
    exact ⟨b1, b2, ndB_keep h1 fun b hb => hk b (by simp [hb]), ndsB_keep h2 fun b hb => hk b (by simp [hb]), rfl⟩
  | [], _ :: _, _, h, _ => h.elim
  | _ :: _, [], _, h, _ => h.elim
theorem scB_keep {B B' : List (List AV)} {s : AV} {l : List Nd} {bs : List Nat} (h : scB B s l bs) (hk : ∀ b ∈ bs, B'[b]? = B[b]?) : scB B' s l bs := by
  rcases h with h | ⟨b, xs, b1, h1, h2, h3, h4, rfl, h5⟩
  · exact Or.inl h
  · exact Or.inr ⟨b, xs, b1, h1, h2, by rw [hk b (by simp)]; exact h3, ndsB_keep h4 fun b hb => hk b (by simp [hb]), rfl, h5⟩

/-! ### Sealed -/
abbrev SAcc := List (Nat × Nat × Nat)
theorem sealN_agg1 {k : Nat} {M : Mem} {x y : AV} {acc acc' : SAcc} (h : sealN k M x acc = some (y, acc')) : sealN (k + 1) M (.agg [x]) acc = some (.agg [y], acc') := by
  rw [sealN.eq_def]
  simp only [mapA, h, Option.map_some]
theorem plain_of_scal {cs : List AV} (h : cs.all scal = true) : cs.all plain = true := by
  rw [List.all_eq_true] at h ⊢
  intro x hx
  have := h x hx
  cases x <;> first | rfl | cases this
theorem seal_slB {M : Mem} {v : AV} {xs : List AV} {sz : Nat} {ag : Bool} {bs : List Nat} (h : slB M.boxes v xs sz ag bs) (hs : (flat xs).all scal = true) (hc : ∀ x ∈ xs, x.cells.length = sz) (he : elems ag sz xs.length (flat xs) = some xs) (k : Nat) (acc : SAcc) :
    ∃ v' new ts, sealN (k + 2) M v acc = some (v', acc ++ new) ∧ new.map (·.1) = bs ∧ slO v' xs ts ∧ good ts (M.toks.length + acc.length) (M.toks.length + (acc ++ new).length) := by
  rcases h with ⟨rfl, rfl, rfl⟩ | ⟨b, rfl, hne, hb, rfl⟩
  · exact ⟨.sl .sh [], [], [], by rw [List.append_nil]; rfl, rfl, ⟨.sh, rfl, Or.inl ⟨rfl, rfl⟩⟩, good_nil (by simp)⟩
  · refine ⟨.sl (.ow (M.toks.length + acc.length)) xs, [(b, xs.length, sz)], [M.toks.length + acc.length], ?_, rfl, ⟨_, rfl, Or.inr ⟨hne, _, rfl, rfl⟩⟩, good_one (Nat.le_refl _) (by simp)⟩
    exact seal_bsl (k + 1) hne hb (flat_len sz xs hc) (mapA_plain k M _ acc (plain_of_scal hs)) he
theorem seal_ndB {M : Mem} {x : AV} {n : Nd} {bs : List Nat} (h : ndB M.boxes x n bs) (k : Nat) (acc : SAcc) :
    ∃ x' new ts, mapA (sealN (k + 2) M) x.cells acc = some (x'.cells, acc ++ new) ∧ new.map (·.1) = bs ∧ ndO x' n ts ∧ good ts (M.toks.length + acc.length) (M.toks.length + (acc ++ new).length) := by
  obtain ⟨v, p, d, cv, cp, b1, b2, b3, b4, b5, rfl, h1, h2, h3, h4, h5, rfl⟩ := h
  have li : ∀ l : List Int, elems false 1 (ints l).length (flat (ints l)) = some (ints l) := fun l => by rw [flat_ints, show (ints l).length = l.length by simp [ints]]; exact elems_ints l
  have lp : ∀ l : List Pt, elems true 2 (pts l).length (flat (pts l)) = some (pts l) := fun l => by rw [show (pts l).length = l.length by simp [pts]]; exact elems_pts l
  obtain ⟨v1, n1, t1, e1, m1, o1, g1⟩ := seal_slB h1 (scal_ints _) (ints_cl _) (li _) k acc
  obtain ⟨v2, n2, t2, e2, m2, o2, g2⟩ := seal_slB h2 (scal_pts _) (pts_cl _) (lp _) k (acc ++ n1)
  obtain ⟨v3, n3, t3, e3, m3, o3, g3⟩ := seal_slB h3 (scal_ints _) (ints_cl _) (li _) k (acc ++ n1 ++ n2)
  obtain ⟨v4, n4, t4, e4, m4, o4, g4⟩ := seal_slB h4 (scal_ints _) (ints_cl _) (li _) k (acc ++ n1 ++ n2 ++ n3)
  obtain ⟨v5, n5, t5, e5, m5, o5, g5⟩ := seal_slB h5 (scal_pts _) (pts_cl _) (lp _) k (acc ++ n1 ++ n2 ++ n3 ++ n4)
  have hacc : acc ++ (n1 ++ n2 ++ n3 ++ (n4 ++ n5)) = acc ++ n1 ++ n2 ++ n3 ++ n4 ++ n5 := by simp only [List.append_assoc]
  refine ⟨.agg (ndW n v1 v2 v3 v4 v5), n1 ++ n2 ++ n3 ++ (n4 ++ n5), t1 ++ t2 ++ t3 ++ (t4 ++ t5), ?_, ?_, ?_, ?_⟩
  · rw [hacc]
    simp only [AV.cells, ndW, mapA, seal_plain (c := i64 _) rfl, seal_plain (c := .bool _) rfl, e1, e2, e3, e4, e5]
  · simp only [List.map_append, m1, m2, m3, m4, m5]
  · exact ⟨v1, v2, v3, v4, v5, t1, t2, t3, t4, t5, rfl, o1, o2, o3, o4, o5, rfl⟩
  · rw [hacc]
    exact good_app (good_app (good_app g1 g2) g3) (good_app g4 g5)
theorem seal_ndsB {M : Mem} (k : Nat) : ∀ {xs : List AV} {l : List Nd} {bs : List Nat} (_ : ndsB M.boxes xs l bs) (acc : SAcc),
    ∃ xs' new ts, mapA (sealN (k + 2) M) (flat xs) acc = some (flat xs', acc ++ new) ∧ new.map (·.1) = bs ∧ ndsO xs' l ts ∧ good ts (M.toks.length + acc.length) (M.toks.length + (acc ++ new).length)
  | [], [], bs, h, acc => by
    have h : bs = [] := h
    subst h
    exact ⟨[], [], [], by rw [List.append_nil]; rfl, rfl, rfl, good_nil (by simp)⟩
  | x :: xs, n :: l, bs, h, acc => by
    obtain ⟨b1, b2, h1, h2, rfl⟩ := h
    obtain ⟨x', n1, t1, e1, m1, o1, g1⟩ := seal_ndB h1 k acc
    obtain ⟨xs', n2, t2, e2, m2, o2, g2⟩ := seal_ndsB k h2 (acc ++ n1)
    refine ⟨x' :: xs', n1 ++ n2, t1 ++ t2, ?_, by simp only [List.map_append, m1, m2], ⟨t1, t2, o1, o2, rfl⟩, ?_⟩
    · rw [← List.append_assoc]
      exact mapA_app _ _ _ _ e1 e2
    · rw [← List.append_assoc]
      exact good_app g1 g2
  | [], _ :: _, _, h, _ => h.elim
  | _ :: _, [], _, h, _ => h.elim
theorem seal_scN {M : Mem} {s : AV} {l : List Nd} {bs : List Nat} (h : scB M.boxes s l bs) (k : Nat) :
    ∃ r ts acc, sealN (k + 5) M s [] = some (r, acc) ∧ scO r l ts ∧ ts.Nodup ∧ acc.map (·.1) = bs := by
  rcases h with ⟨rfl, rfl, rfl⟩ | ⟨b, xs, b1, rfl, hne, hb, hx, rfl, -⟩
  · exact ⟨.agg [.sl .sh []], [], [], rfl, ⟨_, [], [], [], rfl, ⟨.sh, rfl, Or.inl ⟨rfl, rfl⟩⟩, rfl, rfl⟩, List.nodup_nil, rfl⟩
  · obtain ⟨xs', new, ts, e, m, o, g⟩ := seal_ndsB (k + 1) hx []
    rw [List.nil_append] at e g
    have hl := (ndsB_agg hx).1
    have hl' := ndsO_len o
    have hxne : xs ≠ [] := fun h => by rw [h] at hl; exact hne (List.length_eq_zero_iff.1 hl.symm)
    have hxne' : xs' ≠ [] := fun h => by rw [h] at hl'; exact hne (List.length_eq_zero_iff.1 hl'.symm)
    have h1 := seal_bsl (ag := true) (k + 3) hxne hb (flat_len 31 _ (ndsB_cl hx)) e (ys := xs') (by rw [hl, ← hl']; simp only [elems, if_true, chunk_flat 31 _ (ndsO_agg o)])
    rw [hl] at h1
    refine ⟨.agg [.sl (.ow (M.toks.length + new.length)) xs'], ts ++ [M.toks.length + new.length], _, sealN_agg1 h1, ⟨_, xs', ts, [M.toks.length + new.length], rfl, ⟨_, rfl, Or.inr ⟨hxne', _, rfl, rfl⟩⟩, o, rfl⟩, ?_, ?_⟩
    · exact (good_app g (good_one (a := M.toks.length + new.length) (b := M.toks.length + new.length + 1) (t := M.toks.length + new.length) (Nat.le_refl _) (by omega))).2.1
    · rw [List.map_append, m]; rfl
theorem seal_scB {M : Mem} {s : AV} {l : List Nd} {bs : List Nat} (h : scB M.boxes s l bs) (hn : bs.Nodup) : ∃ r tk ts, sealR s M = some (r, tk) ∧ scO r l ts ∧ ts.Nodup := by
  obtain ⟨r, ts, acc, e, o, n, m⟩ := seal_scN h 1
  exact ⟨r, _, ts, sealR_of e (scO_own o) (distinct_of (by rw [m]; exact hn)), o, n⟩
theorem seal_scBi {M : Mem} {s : AV} {l : List Nd} {bs : List Nat} (h : scB M.boxes s l bs) (hn : bs.Nodup) (c : Int) : ∃ r tk ts, sealR (.tup [s, i64 c]) M = some (.tup [r, i64 c], tk) ∧ scO r l ts ∧ ts.Nodup := by
  obtain ⟨r, ts, acc, e, o, n, m⟩ := seal_scN h 0
  have e' : sealN 6 M (.tup [s, i64 c]) [] = some (.tup [r, i64 c], acc) := by
    rw [sealN.eq_def]
    simp only [mapA]
    simp only [show sealN 5 M s [] = some (r, acc) from e, seal_plain (c := i64 c) rfl, Option.map_some]
  exact ⟨r, _, ts, sealR_of e' (by simp only [own, ownL, scO_own o, Bool.and_self]) (distinct_of (by rw [m]; exact hn)), o, n⟩
end Go.Proofs.Ytnehpfaafgnnpaa
