/- The law's marks: one node. The law's marks: a scene. -/
import Derived.Test.YtnehpfaafgnnpaaMX
set_option linter.unusedSimpArgs false
set_option linter.unusedVariables false
set_option linter.unnecessarySimpa false
namespace Go.Proofs.Ytnehpfaafgnnpaa
open Go.AM Go.AM.AV

theorem WV_call {T : Tab} {Q : Ex → Env → Mem → Prop} {e : Env} {d : Option Nat} {dr : Bool} {r : List SI} {st : List Fr} {o : Option (AV × Mem)} {v : AV} {M' : Mem} (h1 : o = some (v, M')) (h2 : WT T v d dr r st e M' Q) : WV T o d dr r st e Q := by
  rw [h1]; exact h2
theorem WTv (v : AV) {T : Tab} {Q : Ex → Env → Mem → Prop} {e : Env} {M : Mem} {d : Option Nat} {dr : Bool} {r : List SI} {st : List Fr} : WT T v d dr r st e M Q ↔ WR T dr r st (updO e d v) M Q := WT_eq
theorem get_setne {B : List (List AV)} {b j : Nat} {X : List AV} {bs : List Nat} (hb : b ∉ bs) (hj : j ∈ bs) : (B.set b X)[j]? = B[j]? := by
  rw [List.getElem?_set_ne]
  intro h
  rw [h] at hb
  exact hb hj
theorem kp {B0 B1 : List (List AV)} {w : AV} {xs : List AV} {sz : Nat} {ag : Bool} {bs bs' : List Nat} (h : slB B0 w xs sz ag bs) (k1 : ∀ j, j ∉ bs' → B1[j]? = B0[j]?) (hd : ∀ j ∈ bs, j ∉ bs') : slB B1 w xs sz ag bs :=
  slB_keep h fun j hj => k1 j (hd j hj)
theorem ks {B0 : List (List AV)} {b : Nat} {X : List AV} {w : AV} {xs : List AV} {sz : Nat} {ag : Bool} {bs : List Nat} (h : slB B0 w xs sz ag bs) (hb : b ∉ bs) : slB (B0.set b X) w xs sz ag bs :=
  slB_keep h fun j hj => get_setne hb hj

set_option maxRecDepth 100000 in
set_option maxHeartbeats 4000000 in
theorem node29 (n : Nd) (hn : smN n) (k : Int) (hk : 0 ≤ k ∧ k ≤ 576460752303423488) (i len : Nat) (hi : (i : Int) < len) (hw0 : IntKind.i64.wrap ((i : Int) + 1) = i + 1)
    (B : List (List AV)) (tk : List (Nat × Nat)) (b : Nat) (A R : List AV) (hA : A.length = i * 31) (v p d cv cp : AV) (b1 b2 b3 b4 b5 : List Nat) (hb : B[b]? = some (A ++ (ndW n v p d cv cp ++ R)))
    (h1 : slB B v (ints n.path.verbs) 1 false b1) (h2 : slB B p (pts n.path.points) 2 true b2) (h3 : slB B d (ints n.dashes) 1 false b3) (h4 : slB B cv (ints n.clip.verbs) 1 false b4) (h5 : slB B cp (pts n.clip.points) 2 true b5)
    (hnd : (b1 ++ b2 ++ b3 ++ (b4 ++ b5)).Nodup) (hbn : b ∉ b1 ++ b2 ++ b3 ++ (b4 ++ b5))
    (st : List Fr) (Q : Ex → Env → Mem → Prop)
    (hx : ∀ B' : List (List AV), B'.length = B.length → B'[b]? = some (A ++ (ndW (mkN k n) v p d cv cp ++ R)) → slB B' v (ints (mkN k n).path.verbs) 1 false b1 → slB B' p (pts (mkN k n).path.points) 2 true b2 → slB B' d (ints (mkN k n).dashes) 1 false b3 →
      slB B' cv (ints (mkN k n).clip.verbs) 1 false b4 → slB B' cp (pts (mkN k n).clip.points) 2 true b5 → (∀ j, j ≠ b → j ∉ b1 ++ b2 ++ b3 ++ (b4 ++ b5) → B'[j]? = B[j]?) →
      WL T [0, 1, 5] f29L0 st (upd (upd (upd bot 5 (i64 ((i : Int) + 1))) 1 (i64 (kE k n))) 0 (.bsl b 0 len 31 true)) ⟨B', tk⟩ Q) :
    WL T [0, 1, 5] f29L0 st (upd (upd (upd bot 5 (i64 i)) 1 (i64 k)) 0 (.bsl b 0 len 31 true)) ⟨B, tk⟩ Q := by
  have hlt : b < B.length := (List.getElem?_eq_some_iff.1 hb).1
  have hs0 : ∀ X, (B.set b X)[b]? = some X := fun X => by simp [hlt]
  have t0 : ∀ L : List AV, (A ++ L).take (i * 31) = A := fun L => by rw [← hA, List.take_left]
  have tj : ∀ (j : Nat) (L : List AV), (A ++ L).take (i * 31 + j) = A ++ L.take j := fun j L => by rw [← hA, List.take_append, List.take_of_length_le (by omega), Nat.add_sub_cancel_left]
  have dj : ∀ (j : Nat) (L : List AV), (A ++ L).drop (i * 31 + j) = L.drop j := fun j L => by rw [← hA, List.drop_append, List.drop_of_length_le (by omega), Nat.add_sub_cancel_left, List.nil_append]
  have gj : ∀ (j : Nat) (L : List AV), (A ++ L)[i * 31 + j]? = L[j]? := fun j L => by rw [← hA, List.getElem?_append_right (by omega), Nat.add_sub_cancel_left]
  have w1 := fun j hj => wr k j hj (by omega)
  have le : ∀ c, c ≤ 31 → (i * 31 + c ≤ i * 31 + (R.length + 31)) = True := fun c hc => eq_true (by omega)
  have b1' := hn.v; have b2' := hn.p; have b3' := hn.d; have b4' := hn.cv; have b5' := hn.cp
  have e1 : kA k n = k + 9 + n.path.verbs.length := rfl
  have e2 : kB k n = kA k n + 2 * n.path.points.length := rfl
  have e3 : kC k n = kB k n + 2 + n.dashes.length := rfl
  have e4 : kD k n = kC k n + 15 + n.clip.verbs.length := rfl
  have e5 : kE k n = kD k n + 2 * n.clip.points.length := rfl
  have w2 := fun j hj => wr (kB k n) j hj (by omega)
  have w3 := fun j hj => wr (kC k n) j hj (by omega)
  have hbn' := hbn
  simp only [List.mem_append, not_or] at hbn'
  simp only [List.nodup_append, List.mem_append] at hnd
  obtain ⟨⟨⟨-, -, d12⟩, -, d3⟩, ⟨-, -, d45⟩, d6⟩ := hnd
  obtain ⟨⟨⟨m1, m2⟩, m3⟩, m4, m5⟩ := hbn'
  rw [WL_go (a := f29L0) (b := f29L0b) rfl]
  simp only [f29L0b, hb, hs0, ndW, ↓WTv (.bool ((k + 2).tmod 3 == 0)), List.set_set, hi, hw0, t0, tj, dj, gj, hA, le, WTv v, WTv p, WTv d, WTv cv, WTv cp, List.append_assoc, Nat.add_assoc, Int.add_assoc, Int.reduceAdd, show ¬ ((3 : Int) = 0) by decide, 
    w1 1 (by omega), w1 2 (by omega), w1 3 (by omega), w1 4 (by omega), w1 5 (by omega), w1 6 (by omega), w1 7 (by omega), w1 8 (by omega), w1 9 (by omega), W_start, ↓WS_seq, ↓WS_reg, ↓WS_cond, ↓WS_ret, ↓WS_skip, ↓WS_exit, ↓WS_block, ↓WS_loop, ↓WE_nil, ↓WE_sq_n, ↓WE_sq_r, ↓WE_sq_x, ↓WE_bk_n, ↓WE_bk_r, ↓WE_bk_x, ↓WE_lp_n, ↓WE_lp_r, ↓WE_lp_x, ↓WR_nil, ↓WR_cons, ↓WR_guard, WV_some, WT_bool, WT_int, WT_str, WT_nil, WT_ptr, WT_adr, WT_sl, WT_agg, WT_tup, WT_fn, WT_bsl, WT_und, WT_any, WC_bool, WG_bool, WG_und, SOp.ev, X.ev, updO_some, updO_none, ↓upd_same, ↓upd_ne, ↓reduceIte, pick, argEnv_cons, argEnv_nil, bot_at, endQ, resL, resA, oneOrTup, abin, ibin, Nat.reduceEqDiff, if_true, if_false, Option.map_some, seal_bool, seal_int, cond_true, cond_false, Bool.false_eq_true, reduceCtorEq, decide_eq_true_eq, and_self, and_true, true_and, AV.known, AV.cells, cut, List.length_cons, List.length_nil, List.length_map, List.drop_zero, List.drop_succ_cons, List.getElem?_cons_zero, List.getElem?_cons_succ, List.getElem?_append_right, List.getElem?_map, Nat.zero_add, Nat.add_zero, Nat.reduceAdd, Nat.reduceLeDiff, Nat.le_refl, List.nil_append, List.length_append, Int.toNat_natCast, Int.natCast_nonneg, Bool.not_true, Bool.not_false, beq_iff_eq, List.take_succ_cons, List.take_zero, Nat.reduceSub, Nat.sub_self, Nat.reduceMul, Nat.mul_one, evL, ne_eq, not_false_eq_true, get_last, set_last, okE, AV.bd, AV.bdL, Bool.and_self, Bool.and_true, Bool.true_and, List.all_cons, List.all_nil, AV.one, lay, List.set_cons_zero, List.append_nil, beq_self_eq_true, List.drop_nil, evP, fillA, Bool.false_xor, Bool.true_xor, Option.map_none, List.cons_append, hdOk, List.set_cons_succ]
  let n1 : Nd := { n with id := k, parent := k + 1, group := (k + 2).tmod 3 == 0, mat := ⟨k + 3, k + 4, k + 5, k + 6, k + 7, k + 8⟩ }
  obtain ⟨B1, c1, s1, l1, k1⟩ := cl50 v n.path.verbs b1 (k + 9) (by omega) b1' (B.set b (A ++ (ndW n1 v p d cv cp ++ R))) tk (ks h1 m1)
  refine WV_call c1 ?_
  have g1 : B1[b]? = some (A ++ (ndW n1 v p d cv cp ++ R)) := by rw [k1 b m1]; exact hs0 _
  have p2 := kp (ks h2 m2) k1 (fun j hj hj' => d12 j hj' j hj rfl)
  have p3 := kp (ks h3 m3) k1 (fun j hj hj' => d3 j (Or.inl hj') j hj rfl)
  have p4 := kp (ks h4 m4) k1 (fun j hj hj' => d6 j (Or.inl (Or.inl hj')) j (Or.inl hj) rfl)
  have p5 := kp (ks h5 m5) k1 (fun j hj hj' => d6 j (Or.inl (Or.inl hj')) j (Or.inr hj) rfl)
  rw [← e1]
  simp only [g1, n1, ndW, List.set_set, hi, hw0, t0, tj, dj, gj, hA, le, WTv v, WTv p, WTv d, WTv cv, WTv cp, List.append_assoc, Nat.add_assoc, Int.add_assoc, Int.reduceAdd, show ¬ ((3 : Int) = 0) by decide, 
    W_start, ↓WS_seq, ↓WS_reg, ↓WS_cond, ↓WS_ret, ↓WS_skip, ↓WS_exit, ↓WS_block, ↓WS_loop, ↓WE_nil, ↓WE_sq_n, ↓WE_sq_r, ↓WE_sq_x, ↓WE_bk_n, ↓WE_bk_r, ↓WE_bk_x, ↓WE_lp_n, ↓WE_lp_r, ↓WE_lp_x, ↓WR_nil, ↓WR_cons, ↓WR_guard, WV_some, WT_bool, WT_int, WT_str, WT_nil, WT_ptr, WT_adr, WT_sl, WT_agg, WT_tup, WT_fn, WT_bsl, WT_und, WT_any, WC_bool, WG_bool, WG_und, SOp.ev, X.ev, updO_some, updO_none, ↓upd_same, ↓upd_ne, ↓reduceIte, pick, argEnv_cons, argEnv_nil, bot_at, endQ, resL, resA, oneOrTup, abin, ibin, Nat.reduceEqDiff, if_true, if_false, Option.map_some, seal_bool, seal_int, cond_true, cond_false, Bool.false_eq_true, reduceCtorEq, decide_eq_true_eq, and_self, and_true, true_and, AV.known, AV.cells, cut, List.length_cons, List.length_nil, List.length_map, List.drop_zero, List.drop_succ_cons, List.getElem?_cons_zero, List.getElem?_cons_succ, List.getElem?_append_right, List.getElem?_map, Nat.zero_add, Nat.add_zero, Nat.reduceAdd, Nat.reduceLeDiff, Nat.le_refl, List.nil_append, List.length_append, Int.toNat_natCast, Int.natCast_nonneg, Bool.not_true, Bool.not_false, beq_iff_eq, List.take_succ_cons, List.take_zero, Nat.reduceSub, Nat.sub_self, Nat.reduceMul, Nat.mul_one, evL, ne_eq, not_false_eq_true, get_last, set_last, okE, AV.bd, AV.bdL, Bool.and_self, Bool.and_true, Bool.true_and, List.all_cons, List.all_nil, AV.one, lay, List.set_cons_zero, List.append_nil, beq_self_eq_true, List.drop_nil, evP, fillA, Bool.false_xor, Bool.true_xor, Option.map_none, List.cons_append, hdOk, List.set_cons_succ]
  obtain ⟨B2, c2, s2, l2, k2⟩ := cl51 p n.path.points b2 (kA k n) (by omega) b2' B1 tk p2
  refine WV_call c2 ?_
  have g2 : B2[b]? = some (A ++ (ndW n1 v p d cv cp ++ R)) := by rw [k2 b m2]; exact g1
  have q1 := kp s1 k2 (fun j hj hj' => d12 j hj j hj' rfl)
  have q3 := kp p3 k2 (fun j hj hj' => d3 j (Or.inr hj') j hj rfl)
  have q4 := kp p4 k2 (fun j hj hj' => d6 j (Or.inl (Or.inr hj')) j (Or.inl hj) rfl)
  have q5 := kp p5 k2 (fun j hj hj' => d6 j (Or.inl (Or.inr hj')) j (Or.inr hj) rfl)
  rw [← e2]
  have lb2 : b < B2.length := (List.getElem?_eq_some_iff.1 g2).1
  have hs2 : ∀ X, (B2.set b X)[b]? = some X := fun X => by simp [lb2]
  simp only [g2, hs2, n1, ndW, ↓WTv (.bool ((kB k n).tmod 3 == 0)), List.set_set, hi, hw0, t0, tj, dj, gj, hA, le, WTv v, WTv p, WTv d, WTv cv, WTv cp, List.append_assoc, Nat.add_assoc, Int.add_assoc, Int.reduceAdd, show ¬ ((3 : Int) = 0) by decide, 
    w2 1 (by omega), w2 2 (by omega), W_start, ↓WS_seq, ↓WS_reg, ↓WS_cond, ↓WS_ret, ↓WS_skip, ↓WS_exit, ↓WS_block, ↓WS_loop, ↓WE_nil, ↓WE_sq_n, ↓WE_sq_r, ↓WE_sq_x, ↓WE_bk_n, ↓WE_bk_r, ↓WE_bk_x, ↓WE_lp_n, ↓WE_lp_r, ↓WE_lp_x, ↓WR_nil, ↓WR_cons, ↓WR_guard, WV_some, WT_bool, WT_int, WT_str, WT_nil, WT_ptr, WT_adr, WT_sl, WT_agg, WT_tup, WT_fn, WT_bsl, WT_und, WT_any, WC_bool, WG_bool, WG_und, SOp.ev, X.ev, updO_some, updO_none, ↓upd_same, ↓upd_ne, ↓reduceIte, pick, argEnv_cons, argEnv_nil, bot_at, endQ, resL, resA, oneOrTup, abin, ibin, Nat.reduceEqDiff, if_true, if_false, Option.map_some, seal_bool, seal_int, cond_true, cond_false, Bool.false_eq_true, reduceCtorEq, decide_eq_true_eq, and_self, and_true, true_and, AV.known, AV.cells, cut, List.length_cons, List.length_nil, List.length_map, List.drop_zero, List.drop_succ_cons, List.getElem?_cons_zero, List.getElem?_cons_succ, List.getElem?_append_right, List.getElem?_map, Nat.zero_add, Nat.add_zero, Nat.reduceAdd, Nat.reduceLeDiff, Nat.le_refl, List.nil_append, List.length_append, Int.toNat_natCast, Int.natCast_nonneg, Bool.not_true, Bool.not_false, beq_iff_eq, List.take_succ_cons, List.take_zero, Nat.reduceSub, Nat.sub_self, Nat.reduceMul, Nat.mul_one, evL, ne_eq, not_false_eq_true, get_last, set_last, okE, AV.bd, AV.bdL, Bool.and_self, Bool.and_true, Bool.true_and, List.all_cons, List.all_nil, AV.one, lay, List.set_cons_zero, List.append_nil, beq_self_eq_true, List.drop_nil, evP, fillA, Bool.false_xor, Bool.true_xor, Option.map_none, List.cons_append, hdOk, List.set_cons_succ]
  let n2 : Nd := { n1 with even := (kB k n).tmod 3 == 0, width := kB k n + 1 }
  obtain ⟨B3, c3, s3, l3, k3⟩ := cl50 d n.dashes b3 (kB k n + 2) (by omega) b3' (B2.set b (A ++ (ndW n2 v p d cv cp ++ R))) tk (ks q3 m3)
  refine WV_call c3 ?_
  have g3 : B3[b]? = some (A ++ (ndW n2 v p d cv cp ++ R)) := by rw [k3 b m3]; exact hs2 _
  have r1 := kp (ks q1 m1) k3 (fun j hj hj' => d3 j (Or.inl hj) j hj' rfl)
  have r2 := kp (ks s2 m2) k3 (fun j hj hj' => d3 j (Or.inr hj) j hj' rfl)
  have r4 := kp (ks q4 m4) k3 (fun j hj hj' => d6 j (Or.inr hj') j (Or.inl hj) rfl)
  have r5 := kp (ks q5 m5) k3 (fun j hj hj' => d6 j (Or.inr hj') j (Or.inr hj) rfl)
  rw [← e3]
  have lb3 : b < B3.length := (List.getElem?_eq_some_iff.1 g3).1
  have hs3 : ∀ X, (B3.set b X)[b]? = some X := fun X => by simp [lb3]
  simp only [g3, hs3, n2, n1, ndW, List.set_set, hi, hw0, t0, tj, dj, gj, hA, le, WTv v, WTv p, WTv d, WTv cv, WTv cp, List.append_assoc, Nat.add_assoc, Int.add_assoc, Int.reduceAdd, show ¬ ((3 : Int) = 0) by decide, 
    w3 1 (by omega), w3 2 (by omega), w3 3 (by omega), w3 4 (by omega), w3 5 (by omega), w3 6 (by omega), w3 7 (by omega), w3 8 (by omega), w3 9 (by omega), w3 10 (by omega), w3 11 (by omega), w3 12 (by omega), w3 13 (by omega), w3 14 (by omega), w3 15 (by omega), W_start, ↓WS_seq, ↓WS_reg, ↓WS_cond, ↓WS_ret, ↓WS_skip, ↓WS_exit, ↓WS_block, ↓WS_loop, ↓WE_nil, ↓WE_sq_n, ↓WE_sq_r, ↓WE_sq_x, ↓WE_bk_n, ↓WE_bk_r, ↓WE_bk_x, ↓WE_lp_n, ↓WE_lp_r, ↓WE_lp_x, ↓WR_nil, ↓WR_cons, ↓WR_guard, WV_some, WT_bool, WT_int, WT_str, WT_nil, WT_ptr, WT_adr, WT_sl, WT_agg, WT_tup, WT_fn, WT_bsl, WT_und, WT_any, WC_bool, WG_bool, WG_und, SOp.ev, X.ev, updO_some, updO_none, ↓upd_same, ↓upd_ne, ↓reduceIte, pick, argEnv_cons, argEnv_nil, bot_at, endQ, resL, resA, oneOrTup, abin, ibin, Nat.reduceEqDiff, if_true, if_false, Option.map_some, seal_bool, seal_int, cond_true, cond_false, Bool.false_eq_true, reduceCtorEq, decide_eq_true_eq, and_self, and_true, true_and, AV.known, AV.cells, cut, List.length_cons, List.length_nil, List.length_map, List.drop_zero, List.drop_succ_cons, List.getElem?_cons_zero, List.getElem?_cons_succ, List.getElem?_append_right, List.getElem?_map, Nat.zero_add, Nat.add_zero, Nat.reduceAdd, Nat.reduceLeDiff, Nat.le_refl, List.nil_append, List.length_append, Int.toNat_natCast, Int.natCast_nonneg, Bool.not_true, Bool.not_false, beq_iff_eq, List.take_succ_cons, List.take_zero, Nat.reduceSub, Nat.sub_self, Nat.reduceMul, Nat.mul_one, evL, ne_eq, not_false_eq_true, get_last, set_last, okE, AV.bd, AV.bdL, Bool.and_self, Bool.and_true, Bool.true_and, List.all_cons, List.all_nil, AV.one, lay, List.set_cons_zero, List.append_nil, beq_self_eq_true, List.drop_nil, evP, fillA, Bool.false_xor, Bool.true_xor, Option.map_none, List.cons_append, hdOk, List.set_cons_succ]
  let n3 : Nd := { n2 with paint := ⟨kC k n, ⟨kC k n + 1, kC k n + 2, kC k n + 3, kC k n + 4⟩, ⟨kC k n + 5, kC k n + 6, kC k n + 7, kC k n + 8⟩, ⟨kC k n + 9, kC k n + 10⟩, ⟨kC k n + 11, kC k n + 12⟩⟩, mode := kC k n + 13, fade := kC k n + 14 }
  obtain ⟨B4, c4, s4, l4, k4⟩ := cl50 cv n.clip.verbs b4 (kC k n + 15) (by omega) b4' (B3.set b (A ++ (ndW n3 v p d cv cp ++ R))) tk (ks r4 m4)
  refine WV_call c4 ?_
  have g4 : B4[b]? = some (A ++ (ndW n3 v p d cv cp ++ R)) := by rw [k4 b m4]; exact hs3 _
  have u1 := kp (ks r1 m1) k4 (fun j hj hj' => d6 j (Or.inl (Or.inl hj)) j (Or.inl hj') rfl)
  have u2 := kp (ks r2 m2) k4 (fun j hj hj' => d6 j (Or.inl (Or.inr hj)) j (Or.inl hj') rfl)
  have u3 := kp (ks s3 m3) k4 (fun j hj hj' => d6 j (Or.inr hj) j (Or.inl hj') rfl)
  have u5 := kp (ks r5 m5) k4 (fun j hj hj' => d45 j hj' j hj rfl)
  rw [← e4]
  simp only [g4, n3, n2, n1, ndW, List.set_set, hi, hw0, t0, tj, dj, gj, hA, le, WTv v, WTv p, WTv d, WTv cv, WTv cp, List.append_assoc, Nat.add_assoc, Int.add_assoc, Int.reduceAdd, show ¬ ((3 : Int) = 0) by decide, 
    W_start, ↓WS_seq, ↓WS_reg, ↓WS_cond, ↓WS_ret, ↓WS_skip, ↓WS_exit, ↓WS_block, ↓WS_loop, ↓WE_nil, ↓WE_sq_n, ↓WE_sq_r, ↓WE_sq_x, ↓WE_bk_n, ↓WE_bk_r, ↓WE_bk_x, ↓WE_lp_n, ↓WE_lp_r, ↓WE_lp_x, ↓WR_nil, ↓WR_cons, ↓WR_guard, WV_some, WT_bool, WT_int, WT_str, WT_nil, WT_ptr, WT_adr, WT_sl, WT_agg, WT_tup, WT_fn, WT_bsl, WT_und, WT_any, WC_bool, WG_bool, WG_und, SOp.ev, X.ev, updO_some, updO_none, ↓upd_same, ↓upd_ne, ↓reduceIte, pick, argEnv_cons, argEnv_nil, bot_at, endQ, resL, resA, oneOrTup, abin, ibin, Nat.reduceEqDiff, if_true, if_false, Option.map_some, seal_bool, seal_int, cond_true, cond_false, Bool.false_eq_true, reduceCtorEq, decide_eq_true_eq, and_self, and_true, true_and, AV.known, AV.cells, cut, List.length_cons, List.length_nil, List.length_map, List.drop_zero, List.drop_succ_cons, List.getElem?_cons_zero, List.getElem?_cons_succ, List.getElem?_append_right, List.getElem?_map, Nat.zero_add, Nat.add_zero, Nat.reduceAdd, Nat.reduceLeDiff, Nat.le_refl, List.nil_append, List.length_append, Int.toNat_natCast, Int.natCast_nonneg, Bool.not_true, Bool.not_false, beq_iff_eq, List.take_succ_cons, List.take_zero, Nat.reduceSub, Nat.sub_self, Nat.reduceMul, Nat.mul_one, evL, ne_eq, not_false_eq_true, get_last, set_last, okE, AV.bd, AV.bdL, Bool.and_self, Bool.and_true, Bool.true_and, List.all_cons, List.all_nil, AV.one, lay, List.set_cons_zero, List.append_nil, beq_self_eq_true, List.drop_nil, evP, fillA, Bool.false_xor, Bool.true_xor, Option.map_none, List.cons_append, hdOk, List.set_cons_succ]
  obtain ⟨B5, c5, s5, l5, k5⟩ := cl51 cp n.clip.points b5 (kD k n) (by omega) b5' B4 tk u5
  refine WV_call c5 ?_
  have g5 : B5[b]? = some (A ++ (ndW n3 v p d cv cp ++ R)) := by rw [k5 b m5]; exact g4
  have x1 := kp u1 k5 (fun j hj hj' => d6 j (Or.inl (Or.inl hj)) j (Or.inr hj') rfl)
  have x2 := kp u2 k5 (fun j hj hj' => d6 j (Or.inl (Or.inr hj)) j (Or.inr hj') rfl)
  have x3 := kp u3 k5 (fun j hj hj' => d6 j (Or.inr hj) j (Or.inr hj') rfl)
  have x4 := kp s4 k5 (fun j hj hj' => d45 j hj j hj' rfl)
  rw [← e5]
  simp only [hw0, W_start, ↓WS_seq, ↓WS_reg, ↓WS_cond, ↓WS_ret, ↓WS_skip, ↓WS_exit, ↓WS_block, ↓WS_loop, ↓WE_nil, ↓WE_sq_n, ↓WE_sq_r, ↓WE_sq_x, ↓WE_bk_n, ↓WE_bk_r, ↓WE_bk_x, ↓WE_lp_n, ↓WE_lp_r, ↓WE_lp_x, ↓WR_nil, ↓WR_cons, ↓WR_guard, WV_some, WT_bool, WT_int, WT_str, WT_nil, WT_ptr, WT_adr, WT_sl, WT_agg, WT_tup, WT_fn, WT_bsl, WT_und, WT_any, WC_bool, WG_bool, WG_und, SOp.ev, X.ev, updO_some, updO_none, ↓upd_same, ↓upd_ne, ↓reduceIte, pick, argEnv_cons, argEnv_nil, bot_at, endQ, resL, resA, oneOrTup, abin, ibin, Nat.reduceEqDiff, if_true, if_false, Option.map_some, seal_bool, seal_int, cond_true, cond_false, Bool.false_eq_true, reduceCtorEq, decide_eq_true_eq, and_self, and_true, true_and, AV.known, AV.cells, cut, List.length_cons, List.length_nil, List.length_map, List.drop_zero, List.drop_succ_cons, List.getElem?_cons_zero, List.getElem?_cons_succ, List.getElem?_append_right, List.getElem?_map, Nat.zero_add, Nat.add_zero, Nat.reduceAdd, Nat.reduceLeDiff, Nat.le_refl, List.nil_append, List.length_append, Int.toNat_natCast, Int.natCast_nonneg, Bool.not_true, Bool.not_false, beq_iff_eq, List.take_succ_cons, List.take_zero, Nat.reduceSub, Nat.sub_self, Nat.reduceMul, Nat.mul_one, evL, ne_eq, not_false_eq_true, get_last, set_last, okE, AV.bd, AV.bdL, Bool.and_self, Bool.and_true, Bool.true_and, List.all_cons, List.all_nil, AV.one, lay, List.set_cons_zero, List.append_nil, beq_self_eq_true, List.drop_nil, evP, fillA, Bool.false_xor, Bool.true_xor, Option.map_none, List.cons_append, hdOk, List.set_cons_succ]
  refine hx B5 ?_ g5 x1 x2 x3 x4 s5 fun j hj hjn => ?_
  · rw [l5, l4, List.length_set, l3, List.length_set, l2, l1, List.length_set]
  · simp only [List.mem_append, not_or] at hjn
    obtain ⟨⟨⟨a1, a2⟩, a3⟩, a4, a5⟩ := hjn
    rw [k5 j a5, k4 j a4, List.getElem?_set_ne (Ne.symm hj), k3 j a3, List.getElem?_set_ne (Ne.symm hj), k2 j a2, k1 j a1, List.getElem?_set_ne (Ne.symm hj)]
end Go.Proofs.Ytnehpfaafgnnpaa

namespace Go.Proofs.Ytnehpfaafgnnpaa
open Go.AM Go.AM.AV

theorem ndsB_snoc {B : List (List AV)} {x : AV} {n : Nd} {c : List Nat} (hx : ndB B x n c) : ∀ {xs : List AV} {l : List Nd} {bs : List Nat}, ndsB B xs l bs → ndsB B (xs ++ [x]) (l ++ [n]) (bs ++ c)
  | [], [], _, h => by
    have h : _ = [] := h
    subst h
    exact ⟨c, [], hx, rfl, by simp⟩
  | y :: xs, m :: l, bs, h => by
    obtain ⟨t1, t2, h1, h2, rfl⟩ := h
    exact ⟨t1, t2 ++ c, h1, ndsB_snoc hx h2, by simp⟩
  | [], _ :: _, _, h => h.elim
  | _ :: _, [], _, h => h.elim

theorem lp29 (l : List Nd) (hs : ∀ n ∈ l, smN n) (hl : l.length ≤ 1048576) (b : Nat) (tk : List (Nat × Nat)) (st : List Fr) (Q : Ex → Env → Mem → Prop) :
    ∀ i, i ≤ l.length → ∀ (B : List (List AV)) (k : Int) (ys zs : List AV) (L : List Nd) (c1 c2 : List Nat), 0 ≤ k → k + 16777216 * ((l.length : Int) - i) ≤ 576460752303423488 →
      ys.length = i → ndsB B ys L c1 → ndsB B zs (l.drop i) c2 → B[b]? = some (flat ys ++ flat zs) → (c1 ++ c2).Nodup → b ∉ c1 ++ c2 →
      (∀ (e : Env) (B' : List (List AV)) (xs' : List AV), e 1 = i64 (kL k (l.drop i)) → B'.length = B.length → ndsB B' xs' (L ++ mkL k (l.drop i)) (c1 ++ c2) → B'[b]? = some (flat xs') →
        (∀ j, j ≠ b → j ∉ c1 ++ c2 → B'[j]? = B[j]?) → WE T (.exit 0) st e ⟨B', tk⟩ Q) →
      WL T [0, 1, 5] f29L0 st (upd (upd (upd bot 5 (i64 i)) 1 (i64 k)) 0 (.bsl b 0 l.length 31 true)) ⟨B, tk⟩ Q := by
  refine upto _ ?_ fun i hi ih B k ys zs L c1 c2 h0 h1 hy hL hz hb hnd hbn hx => ?_
  · intro B k ys zs L c1 c2 h0 h1 hy hL hz hb hnd hbn hx
    rw [List.drop_length] at hz hx
    rw [WL_go (a := f29L0) (b := f29L0b) rfl]
    simp only [f29L0b, Int.lt_irrefl, W_start, ↓WS_seq, ↓WS_reg, ↓WS_cond, ↓WS_ret, ↓WS_skip, ↓WS_exit, ↓WS_block, ↓WS_loop, ↓WE_nil, ↓WE_sq_n, ↓WE_sq_r, ↓WE_sq_x, ↓WE_bk_n, ↓WE_bk_r, ↓WE_bk_x, ↓WE_lp_n, ↓WE_lp_r, ↓WE_lp_x, ↓WR_nil, ↓WR_cons, ↓WR_guard, WV_some, WT_bool, WT_int, WT_str, WT_nil, WT_ptr, WT_adr, WT_sl, WT_agg, WT_tup, WT_fn, WT_bsl, WT_und, WT_any, WC_bool, WG_bool, WG_und, SOp.ev, X.ev, updO_some, updO_none, ↓upd_same, ↓upd_ne, ↓reduceIte, pick, argEnv_cons, argEnv_nil, bot_at, endQ, resL, resA, oneOrTup, abin, ibin, Nat.reduceEqDiff, if_true, if_false, Option.map_some, seal_bool, seal_int, cond_true, cond_false, Bool.false_eq_true, reduceCtorEq, decide_eq_true_eq, and_self, and_true, true_and, AV.known, AV.cells, cut, List.length_cons, List.length_nil, List.length_map, List.drop_zero, List.drop_succ_cons, List.getElem?_cons_zero, List.getElem?_cons_succ, List.getElem?_append_right, List.getElem?_map, Nat.zero_add, Nat.add_zero, Nat.reduceAdd, Nat.reduceLeDiff, Nat.le_refl, List.nil_append, List.length_append, Int.toNat_natCast, Int.natCast_nonneg, Bool.not_true, Bool.not_false, beq_iff_eq, List.take_succ_cons, List.take_zero, Nat.reduceSub, Nat.sub_self, Nat.reduceMul, Nat.mul_one, evL, ne_eq, not_false_eq_true, get_last, set_last, okE, AV.bd, AV.bdL, Bool.and_self, Bool.and_true, Bool.true_and, List.all_cons, List.all_nil, AV.one, lay, List.set_cons_zero, List.append_nil, beq_self_eq_true, List.drop_nil, evP, fillA, Bool.false_xor, Bool.true_xor, Option.map_none, List.cons_append, hdOk, List.set_cons_succ]
    cases zs with
    | cons z zs => exact hz.elim
    | nil =>
      have hz : c2 = [] := hz
      subst hz
      refine hx _ B ys rfl rfl ?_ ?_ fun j _ _ => rfl
      · simp only [mkL, List.append_nil]; exact hL
      · rw [hb]; simp [flat]
  · have hn := hs _ (List.getElem_mem hi)
    rw [List.drop_eq_getElem_cons hi] at hz hx
    generalize l[i] = n at *
    cases zs with
    | nil => exact hz.elim
    | cons z zs =>
      obtain ⟨d1, d2, ⟨v, p, d, cv, cp, b1, b2, b3, b4, b5, rfl, q1, q2, q3, q4, q5, rfl⟩, hz2, rfl⟩ := hz
      have hA : (flat ys).length = i * 31 := by rw [flat_len 31 _ (ndsB_cl hL), hy]
      have hE := kE_le (k := k) hn
      have hnd' := hnd
      rw [List.nodup_append] at hnd'
      obtain ⟨n1, n2, n3⟩ := hnd'
      rw [List.nodup_append] at n2
      obtain ⟨n2, n4, n5⟩ := n2
      have hb1 : b ∉ b1 ++ b2 ++ b3 ++ (b4 ++ b5) := fun h => hbn (List.mem_append_right _ (List.mem_append_left _ h))
      have hbc : b ∉ c1 := fun h => hbn (List.mem_append_left _ h)
      have hbd : b ∉ d2 := fun h => hbn (List.mem_append_right _ (List.mem_append_right _ h))
      refine node29 n hn k ⟨h0, by omega⟩ i l.length (by omega) (wrap_ok (by omega)) B tk b (flat ys) (flat zs) hA v p d cv cp b1 b2 b3 b4 b5 hb q1 q2 q3 q4 q5 n2 hb1 st Q fun B' hl' hb' s1 s2 s3 s4 s5 hk => ?_
      have hx1 : ndB B' (.agg (ndW (mkN k n) v p d cv cp)) (mkN k n) (b1 ++ b2 ++ b3 ++ (b4 ++ b5)) := ⟨v, p, d, cv, cp, b1, b2, b3, b4, b5, rfl, s1, s2, s3, s4, s5, rfl⟩
      have hL' := ndsB_snoc hx1 (ndsB_keep hL fun j hj => hk j (fun h => hbc (h ▸ hj)) fun h => n3 j hj j (List.mem_append_left _ h) rfl)
      have hz' := ndsB_keep hz2 fun j hj => hk j (fun h => hbd (h ▸ hj)) fun h => n5 j h j hj rfl
      have e1 : flat (ys ++ [.agg (ndW (mkN k n) v p d cv cp)]) ++ flat zs = flat ys ++ (ndW (mkN k n) v p d cv cp ++ flat zs) := by
        rw [flat_app, List.append_assoc]; rfl
      refine ih B' (kE k n) _ zs (L ++ [mkN k n]) _ d2 (by omega) (by push_cast at h1 ⊢; omega) (by simp [hy]) hL' hz' (by rw [e1]; exact hb') (by rw [List.append_assoc]; exact hnd) (by rw [List.append_assoc]; exact hbn) ?_
      intro e B'' xs' he hl'' hxs hb'' hk'
      refine hx e B'' xs' he (by rw [hl'', hl']) ?_ hb'' fun j hj hjn => ?_
      · simpa only [mkL, List.append_assoc, List.cons_append, List.nil_append] using hxs
      · have hjn' : j ∉ b1 ++ b2 ++ b3 ++ (b4 ++ b5) := fun h => hjn (List.mem_append_right _ (List.mem_append_left _ h))
        rw [hk' j hj (by rw [List.append_assoc]; exact hjn), hk j hj hjn']

theorem slB_lt {B : List (List AV)} {w : AV} {xs : List AV} {sz : Nat} {ag : Bool} {bs : List Nat} (h : slB B w xs sz ag bs) : ∀ j ∈ bs, j < B.length := fun j hj => by
  rcases h with ⟨-, -, rfl⟩ | ⟨b, -, -, hb, rfl⟩
  · cases hj
  · simp only [List.mem_singleton] at hj
    subst hj
    exact (List.getElem?_eq_some_iff.1 hb).1
theorem ndsB_lt {B : List (List AV)} : ∀ {xs : List AV} {l : List Nd} {bs : List Nat}, ndsB B xs l bs → ∀ j ∈ bs, j < B.length
  | [], [], _, h, j, hj => by
    have h : _ = [] := h
    subst h
    cases hj
  | x :: xs, n :: l, bs, h, j, hj => by
    obtain ⟨t1, t2, ⟨v, p, d, cv, cp, c1, c2, c3, c4, c5, -, q1, q2, q3, q4, q5, rfl⟩, h2, rfl⟩ := h
    simp only [List.mem_append] at hj
    rcases hj with (((hj | hj) | hj) | hj | hj) | hj
    · exact slB_lt q1 j hj
    · exact slB_lt q2 j hj
    · exact slB_lt q3 j hj
    · exact slB_lt q4 j hj
    · exact slB_lt q5 j hj
    · exact ndsB_lt h2 j hj
  | [], _ :: _, _, h, _, _ => h.elim
  | _ :: _, [], _, h, _, _ => h.elim
theorem scB_lt {B : List (List AV)} {s : AV} {l : List Nd} {bs : List Nat} (h : scB B s l bs) : ∀ j ∈ bs, j < B.length := fun j hj => by
  rcases h with ⟨-, -, rfl⟩ | ⟨b, xs, b1, -, -, hb, hx, rfl, -⟩
  · cases hj
  · rcases List.mem_append.1 hj with hj | hj
    · exact ndsB_lt hx j hj
    · simp only [List.mem_singleton] at hj
      subst hj
      exact (List.getElem?_eq_some_iff.1 hb).1

theorem cl10 (s : AV) (l : List Nd) (bs : List Nat) (hs : ∀ n ∈ l, smN n) (hl : l.length ≤ 1048576) (B : List (List AV)) (tk : List (Nat × Nat)) (h : scB B s l bs) (hn : bs.Nodup) :
    ∃ B', Cl T true 10 [s, i64 1] ⟨B, tk⟩ = some (i64 (kL 1 l), ⟨B', tk⟩) ∧ scB B' s (mkL 1 l) bs ∧ B.length ≤ B'.length ∧ ∀ j, j < B.length → j ∉ bs → B'[j]? = B[j]? := by
  rcases h with ⟨rfl, rfl, rfl⟩ | ⟨b, xs, b1, rfl, hne, hb, hx, rfl, hlb⟩
  · have h29 : ∀ Z, Cl T true 29 [.sl .sh [], i64 1] ⟨B ++ [Z], tk⟩ = some (i64 1, ⟨B ++ [Z], tk⟩) := fun Z => by
      refine full_int (s := f29S) T_e29 T_f29 rfl (Nat.le_of_ble_eq_true rfl) rfl ?_
      simp only [f29S, f29B, W_start, ↓WS_seq, ↓WS_reg, ↓WS_cond, ↓WS_ret, ↓WS_skip, ↓WS_exit, ↓WS_block, ↓WS_loop, ↓WE_nil, ↓WE_sq_n, ↓WE_sq_r, ↓WE_sq_x, ↓WE_bk_n, ↓WE_bk_r, ↓WE_bk_x, ↓WE_lp_n, ↓WE_lp_r, ↓WE_lp_x, ↓WR_nil, ↓WR_cons, ↓WR_guard, WV_some, WT_bool, WT_int, WT_str, WT_nil, WT_ptr, WT_adr, WT_sl, WT_agg, WT_tup, WT_fn, WT_bsl, WT_und, WT_any, WC_bool, WG_bool, WG_und, SOp.ev, X.ev, updO_some, updO_none, ↓upd_same, ↓upd_ne, ↓reduceIte, pick, argEnv_cons, argEnv_nil, bot_at, endQ, resL, resA, oneOrTup, abin, ibin, Nat.reduceEqDiff, if_true, if_false, Option.map_some, seal_bool, seal_int, cond_true, cond_false, Bool.false_eq_true, reduceCtorEq, decide_eq_true_eq, and_self, and_true, true_and, AV.known, AV.cells, cut, List.length_cons, List.length_nil, List.length_map, List.drop_zero, List.drop_succ_cons, List.getElem?_cons_zero, List.getElem?_cons_succ, List.getElem?_append_right, List.getElem?_map, Nat.zero_add, Nat.add_zero, Nat.reduceAdd, Nat.reduceLeDiff, Nat.le_refl, List.nil_append, List.length_append, Int.toNat_natCast, Int.natCast_nonneg, Bool.not_true, Bool.not_false, beq_iff_eq, List.take_succ_cons, List.take_zero, Nat.reduceSub, Nat.sub_self, Nat.reduceMul, Nat.mul_one, evL, ne_eq, not_false_eq_true, get_last, set_last, okE, AV.bd, AV.bdL, Bool.and_self, Bool.and_true, Bool.true_and, List.all_cons, List.all_nil, AV.one, lay, List.set_cons_zero, List.append_nil, beq_self_eq_true, List.drop_nil, evP, fillA, Bool.false_xor, Bool.true_xor, Option.map_none, List.cons_append, hdOk, List.set_cons_succ]
      rw [WL_go (a := f29L0) (b := f29L0b) rfl]
      simp only [f29L0b, Int.natCast_zero, Int.lt_irrefl, W_start, ↓WS_seq, ↓WS_reg, ↓WS_cond, ↓WS_ret, ↓WS_skip, ↓WS_exit, ↓WS_block, ↓WS_loop, ↓WE_nil, ↓WE_sq_n, ↓WE_sq_r, ↓WE_sq_x, ↓WE_bk_n, ↓WE_bk_r, ↓WE_bk_x, ↓WE_lp_n, ↓WE_lp_r, ↓WE_lp_x, ↓WR_nil, ↓WR_cons, ↓WR_guard, WV_some, WT_bool, WT_int, WT_str, WT_nil, WT_ptr, WT_adr, WT_sl, WT_agg, WT_tup, WT_fn, WT_bsl, WT_und, WT_any, WC_bool, WG_bool, WG_und, SOp.ev, X.ev, updO_some, updO_none, ↓upd_same, ↓upd_ne, ↓reduceIte, pick, argEnv_cons, argEnv_nil, bot_at, endQ, resL, resA, oneOrTup, abin, ibin, Nat.reduceEqDiff, if_true, if_false, Option.map_some, seal_bool, seal_int, cond_true, cond_false, Bool.false_eq_true, reduceCtorEq, decide_eq_true_eq, and_self, and_true, true_and, AV.known, AV.cells, cut, List.length_cons, List.length_nil, List.length_map, List.drop_zero, List.drop_succ_cons, List.getElem?_cons_zero, List.getElem?_cons_succ, List.getElem?_append_right, List.getElem?_map, Nat.zero_add, Nat.add_zero, Nat.reduceAdd, Nat.reduceLeDiff, Nat.le_refl, List.nil_append, List.length_append, Int.toNat_natCast, Int.natCast_nonneg, Bool.not_true, Bool.not_false, beq_iff_eq, List.take_succ_cons, List.take_zero, Nat.reduceSub, Nat.sub_self, Nat.reduceMul, Nat.mul_one, evL, ne_eq, not_false_eq_true, get_last, set_last, okE, AV.bd, AV.bdL, Bool.and_self, Bool.and_true, Bool.true_and, List.all_cons, List.all_nil, AV.one, lay, List.set_cons_zero, List.append_nil, beq_self_eq_true, List.drop_nil, evP, fillA, Bool.false_xor, Bool.true_xor, Option.map_none, List.cons_append, hdOk, List.set_cons_succ]
    obtain ⟨v, M', ⟨rfl, q1, q2⟩, B', c, hl', hk⟩ := full_ex (f := 10) (s := f10S) (args := [.agg [.sl .sh []], i64 1]) (M := ⟨B, tk⟩) (P := fun v M' => v = i64 1 ∧ M'.boxes = B ++ [[.sl .sh []]] ∧ M'.toks = tk) T_e10 T_f10 rfl (Nat.le_of_ble_eq_true rfl) (by
      simp only [f10S, f10B, h29, W_start, ↓WS_seq, ↓WS_reg, ↓WS_cond, ↓WS_ret, ↓WS_skip, ↓WS_exit, ↓WS_block, ↓WS_loop, ↓WE_nil, ↓WE_sq_n, ↓WE_sq_r, ↓WE_sq_x, ↓WE_bk_n, ↓WE_bk_r, ↓WE_bk_x, ↓WE_lp_n, ↓WE_lp_r, ↓WE_lp_x, ↓WR_nil, ↓WR_cons, ↓WR_guard, WV_some, WT_bool, WT_int, WT_str, WT_nil, WT_ptr, WT_adr, WT_sl, WT_agg, WT_tup, WT_fn, WT_bsl, WT_und, WT_any, WC_bool, WG_bool, WG_und, SOp.ev, X.ev, updO_some, updO_none, ↓upd_same, ↓upd_ne, ↓reduceIte, pick, argEnv_cons, argEnv_nil, bot_at, endQ, resL, resA, oneOrTup, abin, ibin, Nat.reduceEqDiff, if_true, if_false, Option.map_some, seal_bool, seal_int, cond_true, cond_false, Bool.false_eq_true, reduceCtorEq, decide_eq_true_eq, and_self, and_true, true_and, AV.known, AV.cells, cut, List.length_cons, List.length_nil, List.length_map, List.drop_zero, List.drop_succ_cons, List.getElem?_cons_zero, List.getElem?_cons_succ, List.getElem?_append_right, List.getElem?_map, Nat.zero_add, Nat.add_zero, Nat.reduceAdd, Nat.reduceLeDiff, Nat.le_refl, List.nil_append, List.length_append, Int.toNat_natCast, Int.natCast_nonneg, Bool.not_true, Bool.not_false, beq_iff_eq, List.take_succ_cons, List.take_zero, Nat.reduceSub, Nat.sub_self, Nat.reduceMul, Nat.mul_one, evL, ne_eq, not_false_eq_true, get_last, set_last, okE, AV.bd, AV.bdL, Bool.and_self, Bool.and_true, Bool.true_and, List.all_cons, List.all_nil, AV.one, lay, List.set_cons_zero, List.append_nil, beq_self_eq_true, List.drop_nil, evP, fillA, Bool.false_xor, Bool.true_xor, Option.map_none, List.cons_append, hdOk, List.set_cons_succ])
    rw [q1] at hl' hk
    rw [q2] at c
    refine ⟨B', c, Or.inl ⟨rfl, rfl, rfl⟩, (hl' (by simp)).1, fun j hj _ => ?_⟩
    rw [hk j hj]
    exact List.getElem?_append_left hj
  · have hlt : b < B.length := (List.getElem?_eq_some_iff.1 hb).1
    have hnn : b ∉ b1 ∧ b1.Nodup := by
      rw [List.nodup_append] at hn
      exact ⟨fun h => hn.2.2 b h b (by simp) rfl, hn.1⟩
    have h29 : ∀ Z, ∃ B' xs', Cl T true 29 [.bsl b 0 l.length 31 true, i64 1] ⟨B ++ [Z], tk⟩ = some (i64 (kL 1 l), ⟨B', tk⟩) ∧ B'.length = (B ++ [Z]).length ∧ ndsB B' xs' (mkL 1 l) b1 ∧ B'[b]? = some (flat xs') ∧ ∀ j, j < (B ++ [Z]).length → j ≠ b → j ∉ b1 → B'[j]? = (B ++ [Z])[j]? := fun Z => by
      have hk : ∀ j ∈ b1, (B ++ [Z])[j]? = B[j]? := fun j hj => List.getElem?_append_left (ndsB_lt hx j hj)
      have hx' := ndsB_keep hx hk
      obtain ⟨v, M', ⟨rfl, xs', q1, q2, q3, q4, q5⟩, B', c, hl', hkk⟩ := full_ex (f := 29) (s := f29S) (args := [.bsl b 0 l.length 31 true, i64 1]) (M := ⟨B ++ [Z], tk⟩)
        (P := fun v M' => v = i64 (kL 1 l) ∧ ∃ xs', M'.boxes.length = (B ++ [Z]).length ∧ ndsB M'.boxes xs' (mkL 1 l) b1 ∧ M'.boxes[b]? = some (flat xs') ∧ (∀ j, j ≠ b → j ∉ b1 → M'.boxes[j]? = (B ++ [Z])[j]?) ∧ M'.toks = tk) T_e29 T_f29 rfl (Nat.le_of_ble_eq_true rfl) (by
        simp only [f29S, f29B, W_start, ↓WS_seq, ↓WS_reg, ↓WS_cond, ↓WS_ret, ↓WS_skip, ↓WS_exit, ↓WS_block, ↓WS_loop, ↓WE_nil, ↓WE_sq_n, ↓WE_sq_r, ↓WE_sq_x, ↓WE_bk_n, ↓WE_bk_r, ↓WE_bk_x, ↓WE_lp_n, ↓WE_lp_r, ↓WE_lp_x, ↓WR_nil, ↓WR_cons, ↓WR_guard, WV_some, WT_bool, WT_int, WT_str, WT_nil, WT_ptr, WT_adr, WT_sl, WT_agg, WT_tup, WT_fn, WT_bsl, WT_und, WT_any, WC_bool, WG_bool, WG_und, SOp.ev, X.ev, updO_some, updO_none, ↓upd_same, ↓upd_ne, ↓reduceIte, pick, argEnv_cons, argEnv_nil, bot_at, endQ, resL, resA, oneOrTup, abin, ibin, Nat.reduceEqDiff, if_true, if_false, Option.map_some, seal_bool, seal_int, cond_true, cond_false, Bool.false_eq_true, reduceCtorEq, decide_eq_true_eq, and_self, and_true, true_and, AV.known, AV.cells, cut, List.length_cons, List.length_nil, List.length_map, List.drop_zero, List.drop_succ_cons, List.getElem?_cons_zero, List.getElem?_cons_succ, List.getElem?_append_right, List.getElem?_map, Nat.zero_add, Nat.add_zero, Nat.reduceAdd, Nat.reduceLeDiff, Nat.le_refl, List.nil_append, List.length_append, Int.toNat_natCast, Int.natCast_nonneg, Bool.not_true, Bool.not_false, beq_iff_eq, List.take_succ_cons, List.take_zero, Nat.reduceSub, Nat.sub_self, Nat.reduceMul, Nat.mul_one, evL, ne_eq, not_false_eq_true, get_last, set_last, okE, AV.bd, AV.bdL, Bool.and_self, Bool.and_true, Bool.true_and, List.all_cons, List.all_nil, AV.one, lay, List.set_cons_zero, List.append_nil, beq_self_eq_true, List.drop_nil, evP, fillA, Bool.false_xor, Bool.true_xor, Option.map_none, List.cons_append, hdOk, List.set_cons_succ]
        refine lp29 l hs hl b tk _ _ 0 (Nat.zero_le _) (B ++ [Z]) 1 [] xs [] [] b1 (by omega) (by omega) rfl rfl hx' ?_ (by simpa using hnn.2) (by simpa using hnn.1) (fun e B' xs' he hl' hn' hb' hk' => ?_)
        · rw [List.getElem?_append_left hlt, hb]; rfl
        · rw [List.drop_zero] at he hn'
          simp only [he, W_start, ↓WS_seq, ↓WS_reg, ↓WS_cond, ↓WS_ret, ↓WS_skip, ↓WS_exit, ↓WS_block, ↓WS_loop, ↓WE_nil, ↓WE_sq_n, ↓WE_sq_r, ↓WE_sq_x, ↓WE_bk_n, ↓WE_bk_r, ↓WE_bk_x, ↓WE_lp_n, ↓WE_lp_r, ↓WE_lp_x, ↓WR_nil, ↓WR_cons, ↓WR_guard, WV_some, WT_bool, WT_int, WT_str, WT_nil, WT_ptr, WT_adr, WT_sl, WT_agg, WT_tup, WT_fn, WT_bsl, WT_und, WT_any, WC_bool, WG_bool, WG_und, SOp.ev, X.ev, updO_some, updO_none, ↓upd_same, ↓upd_ne, ↓reduceIte, pick, argEnv_cons, argEnv_nil, bot_at, endQ, resL, resA, oneOrTup, abin, ibin, Nat.reduceEqDiff, if_true, if_false, Option.map_some, seal_bool, seal_int, cond_true, cond_false, Bool.false_eq_true, reduceCtorEq, decide_eq_true_eq, and_self, and_true, true_and, AV.known, AV.cells, cut, List.length_cons, List.length_nil, List.length_map, List.drop_zero, List.drop_succ_cons, List.getElem?_cons_zero, List.getElem?_cons_succ, List.getElem?_append_right, List.getElem?_map, Nat.zero_add, Nat.add_zero, Nat.reduceAdd, Nat.reduceLeDiff, Nat.le_refl, List.nil_append, List.length_append, Int.toNat_natCast, Int.natCast_nonneg, Bool.not_true, Bool.not_false, beq_iff_eq, List.take_succ_cons, List.take_zero, Nat.reduceSub, Nat.sub_self, Nat.reduceMul, Nat.mul_one, evL, ne_eq, not_false_eq_true, get_last, set_last, okE, AV.bd, AV.bdL, Bool.and_self, Bool.and_true, Bool.true_and, List.all_cons, List.all_nil, AV.one, lay, List.set_cons_zero, List.append_nil, beq_self_eq_true, List.drop_nil, evP, fillA, Bool.false_xor, Bool.true_xor, Option.map_none, List.cons_append, hdOk, List.set_cons_succ]
          exact ⟨xs', by simpa using hl', hn', hb', fun j h1 h2 => hk' j h1 h2⟩)
      rw [q5] at c
      have hle : B'.length = (B ++ [Z]).length := by
        have := hl' (by rw [q1]; exact Nat.le_refl _)
        rw [q1] at this
        exact Nat.le_antisymm this.2 this.1
      have hkj : ∀ j, j < (B ++ [Z]).length → B'[j]? = M'.boxes[j]? := hkk
      refine ⟨B', xs', c, hle, ndsB_keep q2 fun j hj => hkj j (by have := ndsB_lt hx' j hj; omega), ?_, fun j hj h1 h2 => ?_⟩
      · rw [hkj b (by rw [List.length_append]; omega)]; exact q3
      · rw [hkj j hj]; exact q4 j h1 h2
    obtain ⟨B1, xs', c1, l1, n1, g1, k1⟩ := h29 [.bsl b 0 l.length 31 true]
    have hlB : B1.length = B.length + 1 := by rw [l1]; simp
    obtain ⟨v, M', ⟨rfl, q1, q2⟩, B', c, hl', hk⟩ := full_ex (f := 10) (s := f10S) (args := [.agg [.bsl b 0 l.length 31 true], i64 1]) (M := ⟨B, tk⟩) (P := fun v M' => v = i64 (kL 1 l) ∧ M'.boxes = B1 ∧ M'.toks = tk) T_e10 T_f10 rfl (Nat.le_of_ble_eq_true rfl) (by
      simp only [f10S, f10B, c1, W_start, ↓WS_seq, ↓WS_reg, ↓WS_cond, ↓WS_ret, ↓WS_skip, ↓WS_exit, ↓WS_block, ↓WS_loop, ↓WE_nil, ↓WE_sq_n, ↓WE_sq_r, ↓WE_sq_x, ↓WE_bk_n, ↓WE_bk_r, ↓WE_bk_x, ↓WE_lp_n, ↓WE_lp_r, ↓WE_lp_x, ↓WR_nil, ↓WR_cons, ↓WR_guard, WV_some, WT_bool, WT_int, WT_str, WT_nil, WT_ptr, WT_adr, WT_sl, WT_agg, WT_tup, WT_fn, WT_bsl, WT_und, WT_any, WC_bool, WG_bool, WG_und, SOp.ev, X.ev, updO_some, updO_none, ↓upd_same, ↓upd_ne, ↓reduceIte, pick, argEnv_cons, argEnv_nil, bot_at, endQ, resL, resA, oneOrTup, abin, ibin, Nat.reduceEqDiff, if_true, if_false, Option.map_some, seal_bool, seal_int, cond_true, cond_false, Bool.false_eq_true, reduceCtorEq, decide_eq_true_eq, and_self, and_true, true_and, AV.known, AV.cells, cut, List.length_cons, List.length_nil, List.length_map, List.drop_zero, List.drop_succ_cons, List.getElem?_cons_zero, List.getElem?_cons_succ, List.getElem?_append_right, List.getElem?_map, Nat.zero_add, Nat.add_zero, Nat.reduceAdd, Nat.reduceLeDiff, Nat.le_refl, List.nil_append, List.length_append, Int.toNat_natCast, Int.natCast_nonneg, Bool.not_true, Bool.not_false, beq_iff_eq, List.take_succ_cons, List.take_zero, Nat.reduceSub, Nat.sub_self, Nat.reduceMul, Nat.mul_one, evL, ne_eq, not_false_eq_true, get_last, set_last, okE, AV.bd, AV.bdL, Bool.and_self, Bool.and_true, Bool.true_and, List.all_cons, List.all_nil, AV.one, lay, List.set_cons_zero, List.append_nil, beq_self_eq_true, List.drop_nil, evP, fillA, Bool.false_xor, Bool.true_xor, Option.map_none, List.cons_append, hdOk, List.set_cons_succ])
    rw [q1] at hl' hk
    rw [q2] at c
    have hin : ∀ j, j < B.length → B'[j]? = B1[j]? := hk
    refine ⟨B', c, Or.inr ⟨b, xs', b1, by rw [mkL_len], ?_, ?_, ndsB_keep n1 fun j hj => hin j (ndsB_lt hx j hj), rfl, hlb⟩, (hl' (by show B.length ≤ _; omega)).1, fun j hj hjn => ?_⟩
    · intro h
      have : (mkL 1 l).length = 0 := by rw [h]; rfl
      rw [mkL_len] at this
      exact hne (List.length_eq_zero_iff.1 this)
    · rw [hin b hlt]; exact g1
    · simp only [List.mem_append, List.mem_singleton, not_or] at hjn
      rw [hin j hj, k1 j (by rw [List.length_append]; omega) hjn.2 hjn.1, List.getElem?_append_left hj]
end Go.Proofs.Ytnehpfaafgnnpaa
