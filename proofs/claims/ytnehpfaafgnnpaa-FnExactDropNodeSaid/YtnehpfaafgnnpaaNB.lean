/- DeleteFunc, whole. impl.DropNode. -/
import Derived.Test.YtnehpfaafgnnpaaNA
set_option linter.unusedSimpArgs false
set_option linter.unusedVariables false
set_option linter.unnecessarySimpa false
namespace Go.Proofs.Ytnehpfaafgnnpaa
open Go.AM Go.AM.AV

theorem fnd_spec (P : Nd → Bool) : ∀ (l : List Nd) (i : Nat), (fnd P i l = -1 ∧ ∀ n ∈ l, P n = false) ∨ ∃ (k : Nat) (n : Nd), l[k]? = some n ∧ fnd P i l = i + k ∧ (∀ m ∈ l.take k, P m = false) ∧ P n = true
  | [], i => Or.inl ⟨rfl, fun n h => by cases h⟩
  | x :: r, i => by
    cases hx : P x with
    | true => exact Or.inr ⟨0, x, rfl, by simp [fnd, hx], (fun m h => by simp at h), hx⟩
    | false =>
      rcases fnd_spec P r (i + 1) with ⟨h1, h2⟩ | ⟨k, n, h1, h2, h3, h4⟩
      · refine Or.inl ⟨by simp [fnd, hx, h1], fun n hn => ?_⟩
        rcases List.mem_cons.1 hn with rfl | hn
        · exact hx
        · exact h2 n hn
      · refine Or.inr ⟨k + 1, n, h1, ?_, fun m hm => ?_, h4⟩
        · simp only [fnd, hx, if_false, Bool.false_eq_true, h2]; omega
        · rw [List.take_succ_cons] at hm
          rcases List.mem_cons.1 hm with rfl | hm
          · exact hx
          · exact h3 m hm
theorem ndsB_split {B : List (List AV)} : ∀ (k : Nat) {xs : List AV} {l : List Nd} {bs : List Nat}, ndsB B xs l bs → ∃ c1 c2, ndsB B (xs.take k) (l.take k) c1 ∧ ndsB B (xs.drop k) (l.drop k) c2 ∧ bs = c1 ++ c2
  | 0, xs, l, bs, h => ⟨[], bs, by simp only [List.take_zero]; exact rfl, by simpa using h, rfl⟩
  | k + 1, [], [], bs, h => by
    have h : bs = [] := h
    subst h
    exact ⟨[], [], rfl, rfl, rfl⟩
  | k + 1, x :: xs, n :: l, bs, h => by
    obtain ⟨t1, t2, h1, h2, rfl⟩ := h
    obtain ⟨c1, c2, q1, q2, rfl⟩ := ndsB_split k h2
    exact ⟨t1 ++ c1, c2, ⟨t1, c1, h1, q1, rfl⟩, q2, by simp⟩
  | _ + 1, [], _ :: _, _, h => h.elim
  | _ + 1, _ :: _, [], _, h => h.elim
theorem flat_take {sz : Nat} : ∀ (k : Nat) (xs : List AV), (∀ x ∈ xs, x.cells.length = sz) → k ≤ xs.length → (flat xs).take (k * sz) = flat (xs.take k) ∧ (flat xs).drop (k * sz) = flat (xs.drop k) := by
  intro k xs hx hk
  have h1 : flat xs = flat (xs.take k) ++ flat (xs.drop k) := by rw [← flat_app, List.take_append_drop]
  have h2 : (flat (xs.take k)).length = k * sz := by
    rw [flat_len sz _ fun x h => hx x (List.mem_of_mem_take h), List.length_take, Nat.min_eq_left hk]
  constructor
  · rw [h1, ← h2, List.take_left]
  · rw [h1, ← h2, List.drop_left]

/-- What is left, to be handed over. -/
def cutB (B : List (List AV)) (v : AV) (l : List Nd) (bs : List Nat) : Prop :=
  (v = .sl .sh [] ∧ l = []) ∨ (∃ b, v = .bsl b 0 0 31 true ∧ l = [] ∧ b < B.length) ∨ ∃ b xs R c, v = .bsl b 0 l.length 31 true ∧ l ≠ [] ∧ B[b]? = some (flat xs ++ R) ∧ ndsB B xs l c ∧ (c ++ [b]).Nodup ∧ (∀ k ∈ c, k < b) ∧ ∀ k ∈ c ++ [b], k ∈ bs
theorem snap_v6 {M : Mem} {v : AV} {l : List Nd} {bs : List Nat} (h : scB M.boxes (.agg [v]) l bs) : snapN 6 M v = some (.sl .sh (nds l)) := by
  rcases h with ⟨h, rfl, -⟩ | ⟨b, xs, b1, h, -, hb, hx, -⟩
  · injection h with h; injection h with h; subst h; rfl
  · injection h with h; injection h with h; subst h
    exact snapN_bsl hb (by rw [flat_len 31 _ (ndsB_cl hx), (ndsB_agg hx).1]) (snap_ndsB 3 hx) (elems_nds l)

theorem cl25 (v : AV) (l : List Nd) (bs : List Nat) (u : List Int) (ub : Nat) (t : Tok) (hl : l.length ≤ 1048576) (hu : u.length < 4611686018427387904) (B : List (List AV)) (tk : List (Nat × Nat)) (h : scB B (.agg [v]) l bs) (hn : bs.Nodup) (hbu : B[ub]? = some [.sl t (ints u)]) (hub : ub ∉ bs) :
    ∃ v' B', Cl T true 25 [v, .fn 26 [.ptr ub 0]] ⟨B, tk⟩ = some (v', ⟨B', tk⟩) ∧ B.length ≤ B'.length ∧ (∀ j, j < B.length → j ∉ bs → B'[j]? = B[j]?) ∧ cutB B' v' (kept u l) bs := by
  have h45 : ∀ fl, Cl T fl 45 [v, .fn 26 [.ptr ub 0]] ⟨B, tk⟩ = some (i64 (fnd (fun n => decide (n.id ∈ u)) 0 l), ⟨B, tk⟩) := fun fl => by
    refine cl45 fl _ _ l 26 [.adr [.sl .sh (ints u)]] _ (by omega) ?_ fun n M => cl26 true M _ n u hu ?_
    · have e2 : snapN 6 ⟨B, tk⟩ (.fn 26 [.ptr ub 0]) = some (.fn 26 [.adr [.sl .sh (ints u)]]) := by
        rw [snapN.eq_def]
        simp only [mapO]
        rw [show snapN 5 ⟨B, tk⟩ (.ptr ub 0) = some (.adr [.sl .sh (ints u)]) by
          rw [snapN.eq_def]
          simp only [hbu, List.drop_zero, mapO, snap_ints, Option.map_some]]
        rfl
      simp only [snapL, mapO, snap_v6 (M := ⟨B, tk⟩) h, e2]
    · have e2 : snapN 6 M (.adr [.sl .sh (ints u)]) = some (.adr [.sl .sh (ints u)]) := by
        rw [snapN.eq_def]
        simp only [mapO, snap_ints, Option.map_some]
      simp only [snapL, mapO, snap_nd', e2, ndE]
  rcases fnd_spec (fun n => decide (n.id ∈ u)) l 0 with ⟨hf, hall⟩ | ⟨k, n, hk, hf, hpre, hp⟩
  · -- nothing is deleted
    have hkl : kept u l = l := by
      unfold kept
      rw [List.filter_eq_self]
      intro a ha
      simpa using hall a ha
    have hvb : v.bd B.length = true ∧ cutB B v (kept u l) bs := by
      rw [hkl]
      rcases h with ⟨h, rfl, -⟩ | ⟨b, xs, b1, h, hne, hb, hx, rfl, hlb⟩
      · injection h with h; injection h with h; subst h; exact ⟨rfl, Or.inl ⟨rfl, rfl⟩⟩
      · injection h with h; injection h with h; subst h
        exact ⟨decide_eq_true (List.getElem?_eq_some_iff.1 hb).1, Or.inr (Or.inr ⟨b, xs, [], b1, rfl, hne, by rw [List.append_nil]; exact hb, hx, hn, hlb, fun k hk => hk⟩)⟩
    rw [hf] at h45
    obtain ⟨v', M', ⟨rfl, rfl⟩, B', hc, hl', hk'⟩ := full_ex (f := 25) (s := f25S) (args := [v, .fn 26 [.ptr ub 0]]) (M := ⟨B, tk⟩) (P := fun w M' => w = v ∧ M' = ⟨B, tk⟩) T_e25 T_f25 rfl (Nat.le_of_ble_eq_true rfl) (by
      simp only [f25S, f25B, h45, WTv v, W_start, ↓WS_seq, ↓WS_reg, ↓WS_cond, ↓WS_ret, ↓WS_skip, ↓WS_exit, ↓WS_block, ↓WS_loop, ↓WE_nil, ↓WE_sq_n, ↓WE_sq_r, ↓WE_sq_x, ↓WE_bk_n, ↓WE_bk_r, ↓WE_bk_x, ↓WE_lp_n, ↓WE_lp_r, ↓WE_lp_x, ↓WR_nil, ↓WR_cons, ↓WR_guard, WV_some, WT_bool, WT_int, WT_str, WT_nil, WT_ptr, WT_adr, WT_sl, WT_agg, WT_tup, WT_fn, WT_bsl, WT_und, WT_any, WC_bool, WG_bool, WG_und, SOp.ev, X.ev, updO_some, updO_none, ↓upd_same, ↓upd_ne, ↓reduceIte, pick, argEnv_cons, argEnv_nil, bot_at, endQ, resL, resA, oneOrTup, abin, ibin, Nat.reduceEqDiff, if_true, if_false, Option.map_some, seal_bool, seal_int, cond_true, cond_false, Bool.false_eq_true, reduceCtorEq, decide_eq_true_eq, and_self, and_true, true_and, AV.known, AV.cells, cut, List.length_cons, List.length_nil, List.length_map, List.drop_zero, List.drop_succ_cons, List.getElem?_cons_zero, List.getElem?_cons_succ, List.getElem?_append_right, List.getElem?_map, Nat.zero_add, Nat.add_zero, Nat.reduceAdd, Nat.reduceLeDiff, Nat.le_refl, List.nil_append, List.length_append, Int.toNat_natCast, Int.natCast_nonneg, Bool.not_true, Bool.not_false, beq_iff_eq, List.take_succ_cons, List.take_zero, Nat.reduceSub, Nat.sub_self, Nat.reduceMul, Nat.mul_one, evL, ne_eq, not_false_eq_true, get_last, set_last, okE, AV.bd, AV.bdL, Bool.and_self, Bool.and_true, Bool.true_and, List.all_cons, List.all_nil, AV.one, lay, List.set_cons_zero, List.append_nil, beq_self_eq_true, List.drop_nil, evP, fillA, Bool.false_xor, Bool.true_xor, Option.map_none, List.cons_append, hdOk, List.set_cons_succ])
    have hk2 : ∀ j, j < B.length → B'[j]? = B[j]? := hk'
    have hlen : B'.length = B.length := by have := hl' (Nat.le_refl _); simp only at this; omega
    have hBB : B' = B := List.ext_getElem? fun j => by
      by_cases hj : j < B.length
      · exact hk2 j hj
      · rw [List.getElem?_eq_none (by omega), List.getElem?_eq_none (by omega)]
    subst hBB
    exact ⟨v', B', hc, Nat.le_refl _, fun j _ _ => rfl, hvb.2⟩
  · rcases h with ⟨h, rfl, -⟩ | ⟨b, xs, b1, h, hne, hb, hx, rfl, hlb⟩
    · cases hk
    · injection h with h; injection h with h; subst h
      have hkl : k < l.length := (List.getElem?_eq_some_iff.1 hk).1
      have hlx := (ndsB_agg hx).1
      have hcl := ndsB_cl hx
      obtain ⟨c1, c2', q1, q2', rfl⟩ := ndsB_split k hx
      obtain ⟨c0, c2, q0, q2, rfl⟩ := ndsB_split 1 q2'
      rw [List.drop_drop] at q2
      rw [List.drop_drop] at q2
      have hft := flat_take k xs hcl (by omega)
      have hfd := flat_take (k + 1) xs hcl (by omega)
      have hw1 : IntKind.i64.wrap ((k : Int) + 1) = k + 1 := wrap_ok (by omega)
      have hk1 : ¬ ((k : Int) = -1) := by omega
      have hblt : b < B.length := (List.getElem?_eq_some_iff.1 hb).1
      have hubb : ub ≠ b := fun h => hub (by simp [h])
      have hkeep : kept u l = l.take k ++ kept u (l.drop (k + 1)) := by
        have : l = l.take k ++ (n :: l.drop (k + 1)) := by
          have h1 : l.drop k = n :: l.drop (k + 1) := by
            rw [List.drop_eq_getElem_cons hkl]
            congr 1
            rw [List.getElem?_eq_getElem hkl] at hk
            exact Option.some.inj hk
          rw [← h1, List.take_append_drop]
        unfold kept
        conv => lhs; rw [this]
        rw [List.filter_append, List.filter_cons]
        have hp' : n.id ∈ u := by simpa using hp
        rw [if_neg (by simp [hp'])]
        congr 1
        rw [List.filter_eq_self]
        intro a ha
        simpa using hpre a ha
      have hks : (xs.take k).length = k := by rw [List.length_take]; omega
      rw [show (0 : Nat) + (k : Int) = k by simp] at hf
      rw [hf] at h45
      have hsub : (c1 ++ c2).Sublist (c1 ++ (c0 ++ c2)) := (List.Sublist.refl c1).append (List.sublist_append_right _ _)
      obtain ⟨v', M', ⟨R, ks', c', rfl, p2, p5, p6, p7, p8, p9⟩, B', hc, hl', hk'⟩ := full_ex (f := 25) (s := f25S) (args := [.bsl b 0 l.length 31 true, .fn 26 [.ptr ub 0]]) (M := ⟨B, tk⟩)
        (P := fun w M' => ∃ R ks' c', w = .bsl b 0 ks'.length 31 true ∧ M'.boxes[b]? = some (flat ks' ++ R) ∧ ndsB M'.boxes ks' (kept u l) c' ∧ c'.Sublist (c1 ++ c2) ∧ B.length ≤ M'.boxes.length ∧
          (∀ j, j ≠ b → j < B.length → M'.boxes[j]? = B[j]?) ∧ M'.toks = tk) T_e25 T_f25 rfl (Nat.le_of_ble_eq_true rfl) (by
        simp only [f25S, f25B, h45, hk1, hw1, W_start, ↓WS_seq, ↓WS_reg, ↓WS_cond, ↓WS_ret, ↓WS_skip, ↓WS_exit, ↓WS_block, ↓WS_loop, ↓WE_nil, ↓WE_sq_n, ↓WE_sq_r, ↓WE_sq_x, ↓WE_bk_n, ↓WE_bk_r, ↓WE_bk_x, ↓WE_lp_n, ↓WE_lp_r, ↓WE_lp_x, ↓WR_nil, ↓WR_cons, ↓WR_guard, WV_some, WT_bool, WT_int, WT_str, WT_nil, WT_ptr, WT_adr, WT_sl, WT_agg, WT_tup, WT_fn, WT_bsl, WT_und, WT_any, WC_bool, WG_bool, WG_und, SOp.ev, X.ev, updO_some, updO_none, ↓upd_same, ↓upd_ne, ↓reduceIte, pick, argEnv_cons, argEnv_nil, bot_at, endQ, resL, resA, oneOrTup, abin, ibin, Nat.reduceEqDiff, if_true, if_false, Option.map_some, seal_bool, seal_int, cond_true, cond_false, Bool.false_eq_true, reduceCtorEq, decide_eq_true_eq, and_self, and_true, true_and, AV.known, AV.cells, cut, List.length_cons, List.length_nil, List.length_map, List.drop_zero, List.drop_succ_cons, List.getElem?_cons_zero, List.getElem?_cons_succ, List.getElem?_append_right, List.getElem?_map, Nat.zero_add, Nat.add_zero, Nat.reduceAdd, Nat.reduceLeDiff, Nat.le_refl, List.nil_append, List.length_append, Int.toNat_natCast, Int.natCast_nonneg, Bool.not_true, Bool.not_false, beq_iff_eq, List.take_succ_cons, List.take_zero, Nat.reduceSub, Nat.sub_self, Nat.reduceMul, Nat.mul_one, evL, ne_eq, not_false_eq_true, get_last, set_last, okE, AV.bd, AV.bdL, Bool.and_self, Bool.and_true, Bool.true_and, List.all_cons, List.all_nil, AV.one, lay, List.set_cons_zero, List.append_nil, beq_self_eq_true, List.drop_nil, evP, fillA, Bool.false_xor, Bool.true_xor, Option.map_none, List.cons_append, hdOk, List.set_cons_succ]
        have h0 := lp25 l u hl hu b ub hubb t tk
        have := fun st Q => h0 st Q (k + 1) (by omega) B (flat xs) (xs.take k) (xs.drop (k + 1)) (l.take k) c1 c2 hb (by rw [flat_len 31 _ hcl, hlx]) (by rw [hks]; exact hft.1) hfd.2 (by omega) q1 q2 hbu (fun j hj => hlb j (hsub.subset hj))
        rw [hks] at this
        refine this _ _ (fun e B' C' ks' c' p1 p2 p3 p4 p5 p6 p7 p8 p9 p10 => ?_)
        rw [← hkeep] at p7
        have hself : ∀ Y, (B'.set b Y)[b]? = some Y := fun Y => List.getElem?_set_self (by omega)
        have a1 : (0 : Int) ≤ ks'.length := by omega
        have a2 : (ks'.length : Int) ≤ l.length := by omega
        have a3 : ks'.length * 31 + (l.length - ks'.length) * 31 ≤ C'.length := by omega
        simp only [p1, p2, p3, hself, bounds, loBound, hiBound, Option.map_some, Option.map_none, a1, a2, a3, Int.le_refl, Nat.zero_mul, Nat.sub_zero, W_start, ↓WS_seq, ↓WS_reg, ↓WS_cond, ↓WS_ret, ↓WS_skip, ↓WS_exit, ↓WS_block, ↓WS_loop, ↓WE_nil, ↓WE_sq_n, ↓WE_sq_r, ↓WE_sq_x, ↓WE_bk_n, ↓WE_bk_r, ↓WE_bk_x, ↓WE_lp_n, ↓WE_lp_r, ↓WE_lp_x, ↓WR_nil, ↓WR_cons, ↓WR_guard, WV_some, WT_bool, WT_int, WT_str, WT_nil, WT_ptr, WT_adr, WT_sl, WT_agg, WT_tup, WT_fn, WT_bsl, WT_und, WT_any, WC_bool, WG_bool, WG_und, SOp.ev, X.ev, updO_some, updO_none, ↓upd_same, ↓upd_ne, ↓reduceIte, pick, argEnv_cons, argEnv_nil, bot_at, endQ, resL, resA, oneOrTup, abin, ibin, Nat.reduceEqDiff, if_true, if_false, Option.map_some, seal_bool, seal_int, cond_true, cond_false, Bool.false_eq_true, reduceCtorEq, decide_eq_true_eq, and_self, and_true, true_and, AV.known, AV.cells, cut, List.length_cons, List.length_nil, List.length_map, List.drop_zero, List.drop_succ_cons, List.getElem?_cons_zero, List.getElem?_cons_succ, List.getElem?_append_right, List.getElem?_map, Nat.zero_add, Nat.add_zero, Nat.reduceAdd, Nat.reduceLeDiff, Nat.le_refl, List.nil_append, List.length_append, Int.toNat_natCast, Int.natCast_nonneg, Bool.not_true, Bool.not_false, beq_iff_eq, List.take_succ_cons, List.take_zero, Nat.reduceSub, Nat.sub_self, Nat.reduceMul, Nat.mul_one, evL, ne_eq, not_false_eq_true, get_last, set_last, okE, AV.bd, AV.bdL, Bool.and_self, Bool.and_true, Bool.true_and, List.all_cons, List.all_nil, AV.one, lay, List.set_cons_zero, List.append_nil, beq_self_eq_true, List.drop_nil, evP, fillA, Bool.false_xor, Bool.true_xor, Option.map_none, List.cons_append, hdOk, List.set_cons_succ]
        simp only [p5, List.append_assoc]
        refine ⟨_, ks', c', rfl, rfl, ?_, p8, ?_, fun j hj hj2 => ?_⟩
        · refine ndsB_keep p7 fun j hj => ?_
          have := hlb j (hsub.subset (p8.subset hj))
          rw [List.getElem?_set_ne (by omega)]
        · rw [List.length_set]; exact p9
        · rw [List.getElem?_set_ne (Ne.symm hj)]
          exact p10 j hj hj2)
      have hc' : ∀ j ∈ c', j < b := fun j hj => hlb j (hsub.subset (p6.subset hj))
      have hin : ∀ j, j < B.length → B'[j]? = M'.boxes[j]? := hk'
      rw [p9] at hc
      refine ⟨_, B', hc, (hl' p7).1, fun j hjl hj => ?_, ?_⟩
      · have hjb : j ≠ b := fun h => hj (by simp [h])
        rw [hin j hjl, p8 j hjb hjl]
      · have hkl' := (ndsB_agg p5).1
        have hkk : ndsB B' ks' (kept u l) c' := ndsB_keep p5 fun j hj => hin j (by have := hc' j hj; omega)
        have hbB : b < B'.length := by have := (hl' p7).1; simp only at this; omega
        rcases Nat.eq_zero_or_pos (kept u l).length with hz | hz
        · refine Or.inr (Or.inl ⟨b, ?_, List.length_eq_zero_iff.1 hz, hbB⟩)
          rw [hkl', hz]
        · refine Or.inr (Or.inr ⟨b, ks', R, c', by rw [hkl'], fun h => ?_, ?_, hkk, ?_, hc', ?_⟩)
          · rw [h] at hz; exact Nat.lt_irrefl _ hz
          · rw [hin b hblt]; exact p2
          rotate_left
          · intro k hk
            rcases List.mem_append.1 hk with hk | hk
            · exact List.mem_append_left _ ((p6.trans hsub).subset hk)
            · exact List.mem_append_right _ hk
          · rw [List.nodup_append]
            refine ⟨?_, by simp, fun a ha b' hb' => ?_⟩
            · have h1 := (p6.trans hsub)
              rw [List.nodup_append] at hn
              exact hn.1.sublist h1
            · simp only [List.mem_singleton] at hb'
              have := hc' a ha
              omega
end Go.Proofs.Ytnehpfaafgnnpaa

namespace Go.Proofs.Ytnehpfaafgnnpaa
open Go.AM Go.AM.AV

theorem cutB_keep {B B' : List (List AV)} {v : AV} {l : List Nd} {bs : List Nat} (h : cutB B v l bs) (hk : ∀ j ∈ bs, B'[j]? = B[j]?) (hl : B.length ≤ B'.length) : cutB B' v l bs := by
  rcases h with h | ⟨b, h1, h2, h3⟩ | ⟨b, xs, R, c, h1, h2, h3, h4, h5, h6, h7⟩
  · exact Or.inl h
  · exact Or.inr (Or.inl ⟨b, h1, h2, by omega⟩)
  · exact Or.inr (Or.inr ⟨b, xs, R, c, h1, h2, by rw [hk b (h7 b (by simp))]; exact h3, ndsB_keep h4 fun j hj => hk j (h7 j (by simp [hj])), h5, h6, h7⟩)
/-- A box that begins with a whole slice is sealed. -/
theorem seal_bsl' {M : Mem} {b sz : Nat} {ag : Bool} {xs R cs' ys : List AV} {acc acc' : List (Nat × Nat × Nat)} (k : Nat) (hne : xs ≠ []) (hM : M.boxes[b]? = some (flat xs ++ R)) (hl : (flat xs).length = xs.length * sz)
    (hm : mapA (sealN k M) (flat xs) acc = some (cs', acc')) (he : elems ag sz xs.length cs' = some ys) :
    sealN (k + 1) M (.bsl b 0 xs.length sz ag) acc = some (.sl (.ow (M.toks.length + acc'.length)) ys, acc' ++ [(b, xs.length, sz)]) := by
  cases xs with
  | nil => exact absurd rfl hne
  | cons x r =>
    simp only [List.length_cons] at hl he ⊢
    have h1 : (flat (x :: r) ++ R).take ((r.length + 1) * sz) = flat (x :: r) := by rw [← hl, List.take_left]
    have h2 : (r.length + 1) * sz ≤ (flat (x :: r) ++ R).length := by rw [List.length_append, hl]; omega
    rw [sealN.eq_def]
    simp only [hM]
    rw [if_pos ⟨trivial, h2⟩, h1, hm]
    simp only [he, Option.map_some]
theorem seal_cut {M : Mem} {v : AV} {l : List Nd} {bs : List Nat} (h : cutB M.boxes v l bs) (c : Int) : ∃ r tk ts, sealR (.tup [.agg [v], i64 c]) M = some (.tup [r, i64 c], tk) ∧ scO r l ts ∧ ts.Nodup := by
  have emp : ∀ v : AV, (∀ k acc, sealN (k + 1) M v acc = some (.sl .sh [], acc)) → ∃ r tk ts, sealR (.tup [.agg [v], i64 c]) M = some (.tup [r, i64 c], tk) ∧ scO r [] ts ∧ ts.Nodup := fun v hv => by
    refine ⟨.agg [.sl .sh []], _, [], sealR_of (acc := []) ?_ rfl rfl, ⟨_, [], [], [], rfl, ⟨.sh, rfl, Or.inl ⟨rfl, rfl⟩⟩, rfl, rfl⟩, List.nodup_nil⟩
    rw [sealN.eq_def]
    simp only [mapA]
    rw [sealN_agg1 (hv 3 [])]
    rfl
  rcases h with ⟨rfl, rfl⟩ | ⟨b, rfl, rfl, -⟩ | ⟨b, xs, R, cc, rfl, hne, hb, hx, hn, hlb, -⟩
  · exact emp _ fun k acc => rfl
  · exact emp _ fun k acc => rfl
  · obtain ⟨xs', new, ts, e, m, o, g⟩ := seal_ndsB 1 hx []
    rw [List.nil_append] at e g
    have hl := (ndsB_agg hx).1
    have hl' := ndsO_len o
    have hxne : xs ≠ [] := fun h => by rw [h] at hl; exact hne (List.length_eq_zero_iff.1 hl.symm)
    have hxne' : xs' ≠ [] := fun h => by rw [h] at hl'; exact hne (List.length_eq_zero_iff.1 hl'.symm)
    have h1 := seal_bsl' (ag := true) 3 hxne hb (flat_len 31 _ (ndsB_cl hx)) e (ys := xs') (by rw [hl, ← hl']; simp only [elems, if_true, chunk_flat 31 _ (ndsO_agg o)])
    rw [hl] at h1
    have o' : scO (.agg [.sl (.ow (M.toks.length + new.length)) xs']) l (ts ++ [M.toks.length + new.length]) := ⟨_, xs', ts, [M.toks.length + new.length], rfl, ⟨_, rfl, Or.inr ⟨hxne', _, rfl, rfl⟩⟩, o, rfl⟩
    have e' : sealN 6 M (.tup [.agg [.bsl b 0 l.length 31 true], i64 c]) [] = some (.tup [.agg [.sl (.ow (M.toks.length + new.length)) xs'], i64 c], new ++ [(b, l.length, 31)]) := by
      rw [sealN.eq_def]
      simp only [mapA]
      rw [sealN_agg1 h1]
      rfl
    refine ⟨_, _, _, sealR_of e' ?_ (distinct_of (by rw [List.map_append, m]; exact hn)), o', ?_⟩
    · rw [show own (.tup [.agg [.sl (.ow (M.toks.length + new.length)) xs'], i64 c]) = (own (.agg [.sl (.ow (M.toks.length + new.length)) xs']) && true) from rfl, scO_own o']; rfl
    · exact (good_app g (good_one (a := M.toks.length + new.length) (b := M.toks.length + new.length + 1) (t := M.toks.length + new.length) (Nat.le_refl _) (by omega))).2.1

theorem kept_under (l : List Nd) (id : Int) (hp : ¬ posI id l < 0) : kept (underL l id) l = l.filter (fun n => !underS l n.id id) := by
  unfold kept
  apply List.filter_congr
  intro n hn
  have : n.id ∈ underL l id ↔ underS l n.id id = true := by
    simp only [underL, hp, if_false, underF, List.mem_map, List.mem_filter]
    constructor
    · rintro ⟨m, ⟨-, h⟩, he⟩
      rwa [he] at h
    · intro h
      exact ⟨n, ⟨hn, h⟩, rfl⟩
  cases hu : underS l n.id id with
  | true => simp [this, hu]
  | false => simp [this, hu]
theorem scB_agg {B : List (List AV)} {s : AV} {l : List Nd} {bs : List Nat} (h : scB B s l bs) : ∃ v, s = .agg [v] := by
  rcases h with ⟨rfl, -⟩ | ⟨b, xs, b1, rfl, -⟩
  · exact ⟨_, rfl⟩
  · exact ⟨_, rfl⟩
theorem underL_len (l : List Nd) (id : Int) : (underL l id).length ≤ l.length := by
  unfold underL underF
  split
  · simp
  · rw [List.length_map]; exact List.length_filter_le _ _

def sciD (l : List Nd) (c : Int) (r : AV) : Prop := ∃ s ts, r = .tup [s, i64 c] ∧ scO s l ts ∧ ts.Nodup

set_option maxRecDepth 100000 in
theorem box8 (l : List Nd) (id : Int) (hl : l.length ≤ 1048576) (hs : ∀ n ∈ l, smN n) :
    ∃ s ts, (scO s (dropS l id).1 ts ∧ ts.Nodup) ∧ ∀ (fl : Bool) (M : Mem) (args : List AV) (r' : AV) (bs : List (List AV)), snapL M args = some [scE l, i64 id] → boxR M.boxes.length (.tup [s, i64 (dropS l id).2]) = some (r', bs) → Cl T fl 8 args M = some (r', ⟨M.boxes ++ bs, M.toks⟩) := by
  obtain ⟨r, tk, ⟨s, ts, rfl, hts⟩, h⟩ := box_ex (f := 8) (s := f8S) (ar := [scE l, i64 id]) (P := fun r _ => sciD (dropS l id).1 (dropS l id).2 r) T_e8 T_f8 rfl (Nat.le_of_ble_eq_true rfl) (by
    have h22 := fun fl M => cl22 fl M l (by omega) (fun n hn => by have := (hs n hn).d; omega)
    have h23 := fun fl M => cl23 fl M l id (by omega)
    obtain ⟨r21, ts21, ⟨o21, n21⟩, h21⟩ := box21 l hl hs
    obtain ⟨s, nb, bs, hbx, gbs, hsc⟩ := box_sc o21 n21 2
    simp only [f8S, f8B, scE, W_start, ↓WS_seq, ↓WS_reg, ↓WS_cond, ↓WS_ret, ↓WS_skip, ↓WS_exit, ↓WS_block, ↓WS_loop, ↓WE_nil, ↓WE_sq_n, ↓WE_sq_r, ↓WE_sq_x, ↓WE_bk_n, ↓WE_bk_r, ↓WE_bk_x, ↓WE_lp_n, ↓WE_lp_r, ↓WE_lp_x, ↓WR_nil, ↓WR_cons, ↓WR_guard, WV_some, WT_bool, WT_int, WT_str, WT_nil, WT_ptr, WT_adr, WT_sl, WT_agg, WT_tup, WT_fn, WT_bsl, WT_und, WT_any, WC_bool, WG_bool, WG_und, SOp.ev, X.ev, updO_some, updO_none, ↓upd_same, ↓upd_ne, ↓reduceIte, pick, argEnv_cons, argEnv_nil, bot_at, endQ, resL, resA, oneOrTup, abin, ibin, Nat.reduceEqDiff, if_true, if_false, Option.map_some, seal_bool, seal_int, cond_true, cond_false, Bool.false_eq_true, reduceCtorEq, decide_eq_true_eq, and_self, and_true, true_and, AV.known, AV.cells, cut, List.length_cons, List.length_nil, List.length_map, List.drop_zero, List.drop_succ_cons, List.getElem?_cons_zero, List.getElem?_cons_succ, List.getElem?_append_right, List.getElem?_map, Nat.zero_add, Nat.add_zero, Nat.reduceAdd, Nat.reduceLeDiff, Nat.le_refl, List.nil_append, List.length_append, Int.toNat_natCast, Int.natCast_nonneg, Bool.not_true, Bool.not_false, beq_iff_eq, List.take_succ_cons, List.take_zero, Nat.reduceSub, Nat.sub_self, Nat.reduceMul, Nat.mul_one, evL, ne_eq, not_false_eq_true, get_last, set_last, okE, AV.bd, AV.bdL, Bool.and_self, Bool.and_true, Bool.true_and, List.all_cons, List.all_nil, AV.one, lay, List.set_cons_zero, List.append_nil, beq_self_eq_true, List.drop_nil, evP, fillA, Bool.false_xor, Bool.true_xor, Option.map_none, List.cons_append, hdOk, List.set_cons_succ]
    refine WV_call (h21 true _ _ s nb (by simp only [snapL, mapO, snap_sc]) hbx) ?_
    have hB0 : ([[.sl .sh (nds l)], [.sl .nl []]] ++ nb : List (List AV))[0]? = some [.sl .sh (nds l)] := rfl
    have hB1 : ([[.sl .sh (nds l)], [.sl .nl []]] ++ nb : List (List AV))[1]? = some [.sl .nl []] := rfl
    have hlen : ([[.sl .sh (nds l)], [.sl .nl []]] ++ nb : List (List AV)).length = 2 + nb.length := by simp; omega
    have hsB := hsc [[.sl .sh (nds l)], [.sl .nl []]] [] rfl
    rw [List.append_nil] at hsB
    obtain ⟨v, rfl⟩ := scB_agg hsB
    generalize ([[.sl .sh (nds l)], [.sl .nl []]] ++ nb : List (List AV)) = B at *
    have hbs : ∀ j ∈ bs, 2 ≤ j ∧ j < B.length := fun j hj => by have := gbs.2.2 j hj; omega
    have h0 : ∀ y, (B ++ [y])[0]? = some [.sl .sh (nds l)] := fun y => by rw [List.getElem?_append_left (by omega)]; exact hB0
    have h1 : ∀ y, (B ++ [y])[1]? = some [.sl .nl []] := fun y => by rw [List.getElem?_append_left (by omega)]; exact hB1
    have hs1 : ∀ y Y, ((B ++ [y]).set 1 Y)[1]? = some Y := fun y Y => List.getElem?_set_self (by rw [List.length_append]; omega)
    have hone : AV.one v = true := by
      rcases hsB with ⟨h, -⟩ | ⟨b, xs, b1, h, -⟩ <;> (injection h with h; injection h with h; subst h; rfl)
    simp only [h0, h1, hs1, h22, h23, ↓hone, len_nd, ↓cut_nd, all_nd, bdL_nd, ↓lay_nd, nd_0, nd_1, nd_2, List.getElem?_drop, List.length_drop, bdL_ints, bdL_pts, W_start, ↓WS_seq, ↓WS_reg, ↓WS_cond, ↓WS_ret, ↓WS_skip, ↓WS_exit, ↓WS_block, ↓WS_loop, ↓WE_nil, ↓WE_sq_n, ↓WE_sq_r, ↓WE_sq_x, ↓WE_bk_n, ↓WE_bk_r, ↓WE_bk_x, ↓WE_lp_n, ↓WE_lp_r, ↓WE_lp_x, ↓WR_nil, ↓WR_cons, ↓WR_guard, WV_some, WT_bool, WT_int, WT_str, WT_nil, WT_ptr, WT_adr, WT_sl, WT_agg, WT_tup, WT_fn, WT_bsl, WT_und, WT_any, WC_bool, WG_bool, WG_und, SOp.ev, X.ev, updO_some, updO_none, ↓upd_same, ↓upd_ne, ↓reduceIte, pick, argEnv_cons, argEnv_nil, bot_at, endQ, resL, resA, oneOrTup, abin, ibin, Nat.reduceEqDiff, if_true, if_false, Option.map_some, seal_bool, seal_int, cond_true, cond_false, Bool.false_eq_true, reduceCtorEq, decide_eq_true_eq, and_self, and_true, true_and, AV.known, AV.cells, cut, List.length_cons, List.length_nil, List.length_map, List.drop_zero, List.drop_succ_cons, List.getElem?_cons_zero, List.getElem?_cons_succ, List.getElem?_append_right, List.getElem?_map, Nat.zero_add, Nat.add_zero, Nat.reduceAdd, Nat.reduceLeDiff, Nat.le_refl, List.nil_append, List.length_append, Int.toNat_natCast, Int.natCast_nonneg, Bool.not_true, Bool.not_false, beq_iff_eq, List.take_succ_cons, List.take_zero, Nat.reduceSub, Nat.sub_self, Nat.reduceMul, Nat.mul_one, evL, ne_eq, not_false_eq_true, get_last, set_last, okE, AV.bd, AV.bdL, Bool.and_self, Bool.and_true, Bool.true_and, List.all_cons, List.all_nil, AV.one, lay, List.set_cons_zero, List.append_nil, beq_self_eq_true, List.drop_nil, evP, fillA, Bool.false_xor, Bool.true_xor, Option.map_none, List.cons_append, hdOk, List.set_cons_succ]
    have fin : ∀ c : Int, ∃ r tk, sealR (.tup [.agg [v], i64 c]) ⟨(B ++ [[v]]).set 1 [v], []⟩ = some (r, tk) ∧ sciD l c r := fun c => by
      have hk : scB ((B ++ [[v]]).set 1 [v]) (.agg [v]) l bs := scB_keep hsB fun j hj => by
        have := hbs j hj
        rw [List.getElem?_set_ne (by omega), List.getElem?_append_left (by omega)]
      obtain ⟨r, tk, ts, e, o, n⟩ := seal_scBi (M := ⟨(B ++ [[v]]).set 1 [v], []⟩) hk gbs.2.1 c
      exact ⟨_, tk, e, r, ts, rfl, o, n⟩
    refine ite_i (fun hk => ite_i (fun hp => ?_) (fun hp => ?_)) (fun hk => ?_)
    · simp only [dropS, hk, hp, if_true]
      exact fin 2
    · simp only [dropS, hk, hp, if_true, if_false]
      obtain ⟨t, tk1, c24⟩ := cl24 l id hl true ⟨B ++ [[v]], []⟩ (.agg [.sl .sh (nds l)]) (snap_sc _ _ _)
      refine WV_call c24 ?_
      have hul := underL_len l id
      -- the call of DeleteFunc
      have hlB : ∀ y : List AV, (B ++ [[v]] ++ [y]).length = B.length + 2 := fun y => by simp
      have hset : ∀ Y Z : List AV, (B ++ [[v]] ++ [Y]).set (B.length + 1) Z = B ++ [[v]] ++ [Z] := fun Y Z => by
        have := set_last (B ++ [[v]]) Y Z
        rwa [List.length_append] at this
      have hsB2 : scB (B ++ [[v]] ++ [[.sl t (ints (underL l id))]]) (.agg [v]) l bs := scB_keep hsB fun j hj => by
        have := hbs j hj
        rw [List.append_assoc, List.getElem?_append_left (by omega)]
      obtain ⟨v', B3, c25, l3, k3, u3⟩ := cl25 v l bs (underL l id) (B ++ [[v]]).length t hl (by omega) (B ++ [[v]] ++ [[.sl t (ints (underL l id))]]) ([] ++ tk1) hsB2 gbs.2.1 (get_last _ _) (fun h => by
        have := (hbs _ h).2
        rw [List.length_append] at this; omega)
      have hv0 : ∀ y : List AV, (B ++ [[v]] ++ [y])[B.length]? = some [v] := fun y => by
        rw [List.getElem?_append_left (by rw [List.length_append]; exact Nat.lt_succ_self _)]; exact get_last _ _
      simp only [WT_sl, WTv v, hv0, hset, ↓hone, W_start, ↓WS_seq, ↓WS_reg, ↓WS_cond, ↓WS_ret, ↓WS_skip, ↓WS_exit, ↓WS_block, ↓WS_loop, ↓WE_nil, ↓WE_sq_n, ↓WE_sq_r, ↓WE_sq_x, ↓WE_bk_n, ↓WE_bk_r, ↓WE_bk_x, ↓WE_lp_n, ↓WE_lp_r, ↓WE_lp_x, ↓WR_nil, ↓WR_cons, ↓WR_guard, WV_some, WT_bool, WT_int, WT_str, WT_nil, WT_ptr, WT_adr, WT_sl, WT_agg, WT_tup, WT_fn, WT_bsl, WT_und, WT_any, WC_bool, WG_bool, WG_und, SOp.ev, X.ev, updO_some, updO_none, ↓upd_same, ↓upd_ne, ↓reduceIte, pick, argEnv_cons, argEnv_nil, bot_at, endQ, resL, resA, oneOrTup, abin, ibin, Nat.reduceEqDiff, if_true, if_false, Option.map_some, seal_bool, seal_int, cond_true, cond_false, Bool.false_eq_true, reduceCtorEq, decide_eq_true_eq, and_self, and_true, true_and, AV.known, AV.cells, cut, List.length_cons, List.length_nil, List.length_map, List.drop_zero, List.drop_succ_cons, List.getElem?_cons_zero, List.getElem?_cons_succ, List.getElem?_append_right, List.getElem?_map, Nat.zero_add, Nat.add_zero, Nat.reduceAdd, Nat.reduceLeDiff, Nat.le_refl, List.nil_append, List.length_append, Int.toNat_natCast, Int.natCast_nonneg, Bool.not_true, Bool.not_false, beq_iff_eq, List.take_succ_cons, List.take_zero, Nat.reduceSub, Nat.sub_self, Nat.reduceMul, Nat.mul_one, evL, ne_eq, not_false_eq_true, get_last, set_last, okE, AV.bd, AV.bdL, Bool.and_self, Bool.and_true, Bool.true_and, List.all_cons, List.all_nil, AV.one, lay, List.set_cons_zero, List.append_nil, beq_self_eq_true, List.drop_nil, evP, fillA, Bool.false_xor, Bool.true_xor, Option.map_none, List.cons_append, hdOk, List.set_cons_succ]
      simp only [List.length_append, List.length_cons, List.length_nil, Nat.zero_add, List.nil_append] at c25
      refine WV_call c25 ?_
      rw [hlB] at l3
      have hv3 : B3[B.length]? = some [v] := by
        rw [k3 B.length (by rw [hlB]; omega) (fun h => by have := (hbs _ h).2; omega)]
        exact hv0 _
      have h13 : B3[1]? = some [.sl .nl []] := by
        rw [k3 1 (by rw [hlB]; omega) (fun h => by have := (hbs _ h).1; omega), List.append_assoc, List.getElem?_append_left (by omega)]
        exact hB1
      have hs3 : ∀ Y, (B3.set B.length Y)[B.length]? = some Y := fun Y => List.getElem?_set_self (by omega)
      have h13' : ∀ Y, (B3.set B.length Y)[1]? = some [.sl .nl []] := fun Y => by rw [List.getElem?_set_ne (by omega)]; exact h13
      have hs31 : ∀ Y Y', ((B3.set B.length Y).set 1 Y')[1]? = some Y' := fun Y Y' => List.getElem?_set_self (by rw [List.length_set]; omega)
      have u4 : cutB ((B3.set B.length [v']).set 1 [v']) v' (kept (underL l id) l) bs := cutB_keep u3 (fun j hj => by
        have := hbs j hj
        rw [List.getElem?_set_ne (by omega), List.getElem?_set_ne (by omega)]) (by simp)
      rw [kept_under l id hp] at u4
      have fin' : ∃ r tk, sealR (.tup [.agg [v'], i64 0]) ⟨(B3.set B.length [v']).set 1 [v'], tk1⟩ = some (r, tk) ∧ sciD (l.filter (fun n => !underS l n.id id)) 0 r := by
        obtain ⟨r, tk, ts, e, o, n⟩ := seal_cut (M := ⟨(B3.set B.length [v']).set 1 [v'], tk1⟩) u4 0
        exact ⟨_, tk, e, r, ts, rfl, o, n⟩
      have hform : v' = .sl .sh [] ∨ ∃ b n, v' = .bsl b 0 n 31 true := by
        rcases u3 with ⟨rfl, -⟩ | ⟨b, rfl, -⟩ | ⟨b, xs, R, c, rfl, -⟩
        · exact Or.inl rfl
        · exact Or.inr ⟨_, _, rfl⟩
        · exact Or.inr ⟨_, _, rfl⟩
      clear u3 u4 c25
      rcases hform with rfl | ⟨b, n, rfl⟩ <;> simp only [hv3, hs3, h13', hs31, W_start, ↓WS_seq, ↓WS_reg, ↓WS_cond, ↓WS_ret, ↓WS_skip, ↓WS_exit, ↓WS_block, ↓WS_loop, ↓WE_nil, ↓WE_sq_n, ↓WE_sq_r, ↓WE_sq_x, ↓WE_bk_n, ↓WE_bk_r, ↓WE_bk_x, ↓WE_lp_n, ↓WE_lp_r, ↓WE_lp_x, ↓WR_nil, ↓WR_cons, ↓WR_guard, WV_some, WT_bool, WT_int, WT_str, WT_nil, WT_ptr, WT_adr, WT_sl, WT_agg, WT_tup, WT_fn, WT_bsl, WT_und, WT_any, WC_bool, WG_bool, WG_und, SOp.ev, X.ev, updO_some, updO_none, ↓upd_same, ↓upd_ne, ↓reduceIte, pick, argEnv_cons, argEnv_nil, bot_at, endQ, resL, resA, oneOrTup, abin, ibin, Nat.reduceEqDiff, if_true, if_false, Option.map_some, seal_bool, seal_int, cond_true, cond_false, Bool.false_eq_true, reduceCtorEq, decide_eq_true_eq, and_self, and_true, true_and, AV.known, AV.cells, cut, List.length_cons, List.length_nil, List.length_map, List.drop_zero, List.drop_succ_cons, List.getElem?_cons_zero, List.getElem?_cons_succ, List.getElem?_append_right, List.getElem?_map, Nat.zero_add, Nat.add_zero, Nat.reduceAdd, Nat.reduceLeDiff, Nat.le_refl, List.nil_append, List.length_append, Int.toNat_natCast, Int.natCast_nonneg, Bool.not_true, Bool.not_false, beq_iff_eq, List.take_succ_cons, List.take_zero, Nat.reduceSub, Nat.sub_self, Nat.reduceMul, Nat.mul_one, evL, ne_eq, not_false_eq_true, get_last, set_last, okE, AV.bd, AV.bdL, Bool.and_self, Bool.and_true, Bool.true_and, List.all_cons, List.all_nil, AV.one, lay, List.set_cons_zero, List.append_nil, beq_self_eq_true, List.drop_nil, evP, fillA, Bool.false_xor, Bool.true_xor, Option.map_none, List.cons_append, hdOk, List.set_cons_succ] <;> exact fin'
    · simp only [dropS, hk, if_false]
      exact fin 1)
  exact ⟨s, ts, hts, h⟩
end Go.Proofs.Ytnehpfaafgnnpaa
