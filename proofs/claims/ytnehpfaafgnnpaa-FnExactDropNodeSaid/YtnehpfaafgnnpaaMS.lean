/- Slices that a call hands over: copies of lists. Copies of points, mats, colours, paints, paths. -/
import Derived.Test.YtnehpfaafgnnpaaMR
set_option linter.unusedSimpArgs false
set_option linter.unusedVariables false
set_option linter.unnecessarySimpa false
namespace Go.Proofs.Ytnehpfaafgnnpaa
open Go.AM Go.AM.AV

/-- An element of a copied slice, its tokens told. -/
def slO (v : AV) (xs : List AV) (ts : List Nat) : Prop := ∃ tok, v = .sl tok xs ∧ ((xs = [] ∧ ts = []) ∨ (xs ≠ [] ∧ ∃ t, tok = .ow t ∧ ts = [t]))
def good (ts : List Nat) (a b : Nat) : Prop := a ≤ b ∧ ts.Nodup ∧ ∀ t ∈ ts, a ≤ t ∧ t < b
theorem good_nil {a b : Nat} (h : a ≤ b) : good [] a b := ⟨h, List.nodup_nil, fun t h => by cases h⟩
theorem good_one {a b t : Nat} (h1 : a ≤ t) (h2 : t < b) : good [t] a b := ⟨by omega, by simp, fun x h => by simp at h; omega⟩
theorem good_app {s t : List Nat} {a b c : Nat} (h1 : good s a b) (h2 : good t b c) : good (s ++ t) a c := by
  obtain ⟨h1, n1, r1⟩ := h1
  obtain ⟨h2, n2, r2⟩ := h2
  refine ⟨by omega, List.nodup_append.2 ⟨n1, n2, fun x hx y hy => ?_⟩, fun x hx => ?_⟩
  · have := r1 x hx; have := r2 y hy; omega
  · rcases List.mem_append.1 hx with hx | hx
    · have := r1 x hx; omega
    · have := r2 x hx; omega
theorem good_perm {s t : List Nat} {a b : Nat} (h : good s a b) (hp : s.Perm t) : good t a b :=
  ⟨h.1, hp.nodup_iff.1 h.2.1, fun x hx => h.2.2 x (hp.mem_iff.2 hx)⟩
theorem good_wide {s : List Nat} {a b a' b' : Nat} (h : good s a b) (ha : a' ≤ a) (hb : b ≤ b') : good s a' b' :=
  ⟨by have := h.1; omega, h.2.1, fun x hx => by have := h.2.2 x hx; omega⟩
theorem good_shift {s : List Nat} {a b : Nat} (h : good s a b) (k : Nat) : good (s.map (· + k)) (a + k) (b + k) := by
  refine ⟨by have := h.1; omega, ?_, fun x hx => ?_⟩
  · have := h.2.1
    unfold List.Nodup at this ⊢
    rw [List.pairwise_map]
    exact this.imp fun hab => by omega
  · obtain ⟨y, hy, rfl⟩ := List.mem_map.1 hx
    have := h.2.2 y hy; omega

theorem shiftL_ints (k : Nat) (l : List Int) : shiftL k (ints l) = ints l := by
  rw [shiftL_eq]; simp [ints, AV.shift]
theorem shiftL_pts (k : Nat) (l : List Pt) : shiftL k (pts l) = pts l := by
  rw [shiftL_eq]; simp [pts, ptE, AV.shift, shiftL]
theorem slO_shift {v : AV} {xs : List AV} {ts : List Nat} (k : Nat) (hx : shiftL k xs = xs) (h : slO v xs ts) : slO (v.shift k) xs (ts.map (· + k)) := by
  obtain ⟨tok, rfl, h⟩ := h
  rcases h with ⟨rfl, rfl⟩ | ⟨hne, t, rfl, rfl⟩
  · cases tok with
    | sh => exact ⟨.sh, rfl, Or.inl ⟨rfl, rfl⟩⟩
    | nl => exact ⟨.nl, rfl, Or.inl ⟨rfl, rfl⟩⟩
    | ow t => exact ⟨.ow (t + k), rfl, Or.inl ⟨rfl, rfl⟩⟩
  · exact ⟨.ow (t + k), by rw [AV.shift, hx], Or.inr ⟨hne, t + k, rfl, rfl⟩⟩

/-! ### Sealing -/
def plain : AV → Bool
  | .int _ _ | .bool _ | .str _ | .nil | .sl _ _ => true
  | _ => false
theorem seal_plain {c : AV} (h : plain c = true) (k : Nat) (M : Mem) (acc : List (Nat × Nat × Nat)) : sealN (k + 1) M c acc = some (c, acc) := by
  cases c <;> first | rfl | cases h
theorem mapA_plain (k : Nat) (M : Mem) : ∀ (cs : List AV) (acc : List (Nat × Nat × Nat)), cs.all plain = true → mapA (sealN (k + 1) M) cs acc = some (cs, acc)
  | [], acc, _ => rfl
  | c :: r, acc, h => by
    simp only [List.all_cons, Bool.and_eq_true] at h
    simp only [mapA, seal_plain h.1, mapA_plain k M r acc h.2]
theorem chunk_flat (sz : Nat) : ∀ xs : List AV, (∀ x ∈ xs, ∃ cs, x = .agg cs ∧ cs.length = sz) → chunk sz xs.length (flat xs) = xs
  | [], _ => rfl
  | x :: r, h => by
    obtain ⟨cs, rfl, hc⟩ := h x List.mem_cons_self
    have hf : flat (.agg cs :: r) = cs ++ flat r := rfl
    have h1 : (cs ++ flat r).take sz = cs := by rw [← hc]; simp
    have h2 : (cs ++ flat r).drop sz = flat r := by rw [← hc]; simp
    simp only [List.length_cons, chunk, hf, h1, h2, chunk_flat sz r fun y hy => h y (List.mem_cons_of_mem _ hy)]
theorem flat_len (sz : Nat) : ∀ xs : List AV, (∀ x ∈ xs, x.cells.length = sz) → (flat xs).length = xs.length * sz
  | [], _ => by simp [flat]
  | x :: r, h => by
    have h1 := h x List.mem_cons_self
    have h2 := flat_len sz r fun y hy => h y (List.mem_cons_of_mem _ hy)
    have hf : flat (x :: r) = x.cells ++ flat r := rfl
    rw [hf, List.length_append, h1, h2, List.length_cons, Nat.succ_mul]; omega
theorem flat_ints : ∀ l : List Int, flat (ints l) = ints l
  | [] => rfl
  | x :: r => by
    have := flat_ints r
    simp only [ints] at this ⊢
    show AV.cells (i64 x) ++ flat (r.map i64) = _
    rw [this]; rfl
theorem plain_ints : ∀ l : List Int, (ints l).all plain = true
  | [] => rfl
  | x :: r => by simp only [ints, List.map_cons, List.all_cons, plain, Bool.true_and]; exact plain_ints r
theorem plain_pts : ∀ l : List Pt, (flat (pts l)).all plain = true
  | [] => rfl
  | x :: r => by
    have := plain_pts r
    show ((ptE x).cells ++ flat (pts r)).all plain = true
    simp only [ptE, AV.cells, List.all_append, List.all_cons, plain, List.all_nil, this, Bool.and_self]
theorem one_ints (l : List Int) : (ints l).all AV.one = true := by simp [ints, AV.one]
theorem pts_agg (l : List Pt) : ∀ x ∈ pts l, ∃ cs, x = .agg cs ∧ cs.length = 2 := by
  intro x hx
  simp only [pts, List.mem_map] at hx
  obtain ⟨p, -, rfl⟩ := hx
  exact ⟨_, rfl, rfl⟩

/-- A box that holds a whole slice is sealed. -/
theorem seal_bsl {M : Mem} {b sz : Nat} {ag : Bool} {xs cs' ys : List AV} {acc acc' : List (Nat × Nat × Nat)} (k : Nat) (hne : xs ≠ []) (hM : M.boxes[b]? = some (flat xs)) (hl : (flat xs).length = xs.length * sz)
    (hm : mapA (sealN k M) (flat xs) acc = some (cs', acc')) (he : elems ag sz xs.length cs' = some ys) :
    sealN (k + 1) M (.bsl b 0 xs.length sz ag) acc = some (.sl (.ow (M.toks.length + acc'.length)) ys, acc' ++ [(b, xs.length, sz)]) := by
  cases xs with
  | nil => exact absurd rfl hne
  | cons x r =>
    have h1 : (flat (x :: r)).take ((r.length + 1) * sz) = flat (x :: r) := List.take_of_length_le (by rw [hl]; exact Nat.le_refl _)
    simp only [List.length_cons] at hl he ⊢
    simp only [sealN, hM, hl, Nat.le_refl, and_self, if_true, h1, hm, he, Option.map_some]
theorem sealR_of {M : Mem} {v r : AV} {acc : List (Nat × Nat × Nat)} (h : sealN 6 M v [] = some (r, acc)) (ho : own r = true) (hd : AM.distinct (acc.map (·.1)) = true) : sealR v M = some (r, M.toks ++ acc.map fun p => (p.2.1, 0)) := by
  unfold sealR
  rw [h]
  exact if_pos ⟨ho, hd⟩
theorem ownL_pts : ∀ l : List Pt, ownL (pts l) = true
  | [] => rfl
  | x :: r => by simp only [pts, ptE, List.map_cons, ownL, own, Bool.true_and]; exact ownL_pts r
theorem slO_own {v : AV} {xs : List AV} {ts : List Nat} (h : slO v xs ts) (hx : ownL xs = true) : own v = true := by
  obtain ⟨tok, rfl, ⟨rfl, -⟩ | ⟨-, t, rfl, -⟩⟩ := h
  · cases tok <;> rfl
  · simp only [own, hx]

/-- What a copied list is, told for the memory that the caller has. -/
theorem own_sl {f : FuncId} {s : SFun} {a0 : AV} {xs : List AV} (h1 : T.ext f = none) (h2 : T.fn f = some s) (h3 : s.mode = .own) (hn : [a0].length ≤ s.nt) (hx : ∀ k, shiftL k xs = xs)
    (h : W T s.body (argEnv 0 [a0]) ⟨[], []⟩ (endQ s fun v M' => ∃ r ts, sealR v M' = some (r, ts) ∧ ∃ t, slO r xs t ∧ good t 0 ts.length)) (tk0 : List (Nat × Nat)) :
    ∃ v tk ts, slO v xs ts ∧ good ts tk0.length (tk0 ++ tk).length ∧ ∀ (fl : Bool) (B : List (List AV)) (a : AV), snapN 6 ⟨B, tk0⟩ a = some a0 → Cl T fl f [a] ⟨B, tk0⟩ = some (v, ⟨B, tk0 ++ tk⟩) := by
  obtain ⟨r, tk, ⟨ts, hs, hg⟩, hc⟩ := own_ex h1 h2 h3 hn h
  refine ⟨r.shift tk0.length, tk, ts.map (· + tk0.length), slO_shift _ (hx _) hs, ?_, fun fl B a ha => ?_⟩
  · have := good_shift hg tk0.length
    rw [List.length_append, Nat.add_comm tk0.length]
    rwa [Nat.zero_add] at this
  · exact hc fl ⟨B, tk0⟩ [a] (by simp only [snapL, mapO, ha])

/-! ### Lists of numbers -/
/-- A slice made whole, filled up to some place. -/
def fl (ns : List AV) (z : AV) (m : Nat) : List AV := flat ns ++ flat (List.replicate m z)
theorem flat_app (a b : List AV) : flat (a ++ b) = flat a ++ flat b := by simp [flat]
theorem fl_step {ns : List AV} {z x : AV} {sz m i : Nat} (hn : ∀ y ∈ ns, y.cells.length = sz) (hz : z.cells.length = sz) (hx : x.cells.length = sz) (hi : ns.length = i) :
    (fl ns z (m + 1)).take (i * sz) ++ x.cells ++ (fl ns z (m + 1)).drop (i * sz + sz) = fl (ns ++ [x]) z m := by
  subst hi
  have hl := flat_len sz ns hn
  have hr : flat (List.replicate (m + 1) z) = z.cells ++ flat (List.replicate m z) := rfl
  have hd : (fl ns z (m + 1)).drop (ns.length * sz + sz) = flat (List.replicate m z) := by
    unfold fl
    rw [hr, ← List.append_assoc, List.drop_append_of_le_length (by rw [List.length_append, hl, hz]; exact Nat.le_refl _)]
    rw [List.drop_of_length_le (by rw [List.length_append, hl, hz]; exact Nat.le_refl _), List.nil_append]
  have ht : (fl ns z (m + 1)).take (ns.length * sz) = flat ns := by
    unfold fl
    rw [← hl, List.take_left]
  rw [hd, ht]
  unfold fl
  rw [flat_app]
  show flat ns ++ x.cells ++ _ = flat ns ++ (x.cells ++ []) ++ _
  rw [List.append_nil]
theorem fl_len {ns : List AV} {z : AV} {sz m : Nat} (hn : ∀ y ∈ ns, y.cells.length = sz) (hz : z.cells.length = sz) : (fl ns z m).length = (ns.length + m) * sz := by
  unfold fl
  rw [List.length_append, flat_len sz ns hn, flat_len sz (List.replicate m z) (fun y hy => by rw [(List.mem_replicate.1 hy).2, hz]), List.length_replicate, Nat.add_mul]
theorem fl_0 (z : AV) (n : Nat) : fl [] z n = flat (List.replicate n z) := rfl
theorem fl_n (ns : List AV) (z : AV) : fl ns z 0 = flat ns := by simp [fl, flat]
theorem ints_take {l : List Int} {i : Nat} (hi : i < l.length) : ints (l.take (i + 1)) = ints (l.take i) ++ [i64 l[i]] := by
  rw [List.take_add_one, List.getElem?_eq_getElem hi]; simp only [ints, Option.toList_some, List.map_append, List.map_cons, List.map_nil]
theorem pts_take {l : List Pt} {i : Nat} (hi : i < l.length) : pts (l.take (i + 1)) = pts (l.take i) ++ [ptE l[i]] := by
  rw [List.take_add_one, List.getElem?_eq_getElem hi]; simp only [pts, Option.toList_some, List.map_append, List.map_cons, List.map_nil]
theorem ints_cl (l : List Int) : ∀ y ∈ ints l, y.cells.length = 1 := by
  intro y hy
  simp only [ints, List.mem_map] at hy
  obtain ⟨n, -, rfl⟩ := hy
  rfl
theorem pts_cl (l : List Pt) : ∀ y ∈ pts l, y.cells.length = 2 := by
  intro y hy
  simp only [pts, List.mem_map] at hy
  obtain ⟨n, -, rfl⟩ := hy
  rfl

theorem lp66 (l : List Int) (hl : l.length ≤ 1048576) (st : List Fr) (Q : Ex → Env → Mem → Prop) :
    ∀ i, i ≤ l.length →
      (∀ e : Env, e 3 = .bsl 0 0 l.length 1 false → WE T (.exit 0) st e ⟨[ints l], []⟩ Q) →
      WL T [0, 3, 4] f66L0 st (upd (upd (upd bot 4 (i64 i)) 3 (.bsl 0 0 l.length 1 false)) 0 (.sl .sh (ints l))) ⟨[fl (ints (l.take i)) (i64 0) (l.length - i)], []⟩ Q := by
  refine upto _ ?_ fun i hi ih hx => ?_
  · intro hx
    rw [WL_go (a := f66L0) (b := f66L0b) rfl]
    rw [List.take_length, Nat.sub_self, fl_n, flat_ints]
    simp only [f66L0b, ints, Int.lt_irrefl, W_start, ↓WS_seq, ↓WS_reg, ↓WS_cond, ↓WS_ret, ↓WS_skip, ↓WS_exit, ↓WS_block, ↓WS_loop, ↓WE_nil, ↓WE_sq_n, ↓WE_sq_r, ↓WE_sq_x, ↓WE_bk_n, ↓WE_bk_r, ↓WE_bk_x, ↓WE_lp_n, ↓WE_lp_r, ↓WE_lp_x, ↓WR_nil, ↓WR_cons, ↓WR_guard, WV_some, WT_bool, WT_int, WT_str, WT_nil, WT_ptr, WT_adr, WT_sl, WT_agg, WT_tup, WT_fn, WT_bsl, WT_und, WT_any, WC_bool, WG_bool, WG_und, SOp.ev, X.ev, updO_some, updO_none, ↓upd_same, ↓upd_ne, ↓reduceIte, pick, argEnv_cons, argEnv_nil, bot_at, endQ, resL, resA, oneOrTup, abin, ibin, Nat.reduceEqDiff, if_true, if_false, Option.map_some, seal_bool, seal_int, cond_true, cond_false, Bool.false_eq_true, reduceCtorEq, decide_eq_true_eq, and_self, and_true, true_and, AV.known, AV.cells, cut, List.length_cons, List.length_nil, List.length_map, List.drop_zero, List.drop_succ_cons, List.getElem?_cons_zero, List.getElem?_cons_succ, List.getElem?_append_right, List.getElem?_map, Nat.zero_add, Nat.add_zero, Nat.reduceAdd, Nat.reduceLeDiff, Nat.le_refl, List.nil_append, List.length_append, Int.toNat_natCast, Int.natCast_nonneg, Bool.not_true, Bool.not_false, beq_iff_eq, List.take_succ_cons, List.take_zero, Nat.reduceSub, Nat.sub_self, Nat.reduceMul, Nat.mul_one, evL, ne_eq, not_false_eq_true, get_last, set_last, okE, AV.bd, AV.bdL, Bool.and_self, Bool.and_true, Bool.true_and, List.all_cons, List.all_nil, AV.one, lay, List.set_cons_zero, List.append_nil, beq_self_eq_true, List.drop_nil, evP, fillA, Bool.false_xor, Bool.true_xor, Option.map_none, List.cons_append, hdOk, List.set_cons_succ]
    exact hx _ rfl
  · have hget : l[i]? = some l[i] := List.getElem?_eq_getElem hi
    have hints : (ints l)[i]? = some (i64 l[i]) := by simp [ints, hget]
    have hlen : (ints l).length = l.length := by simp [ints]
    have hlt' : (i : Int) < l.length := by omega
    have hw1 : IntKind.i64.wrap ((i : Int) + 1) = i + 1 := wrap_ok (by omega)
    have hti : (ints (l.take i)).length = i := by simp [ints]; omega
    have hst := fl_step (ns := ints (l.take i)) (z := i64 0) (x := i64 l[i]) (sz := 1) (m := l.length - (i + 1)) (i := i) (ints_cl _) rfl rfl hti
    have hfl := fl_len (ns := ints (l.take i)) (z := i64 0) (sz := 1) (m := l.length - i) (ints_cl _) rfl
    rw [ints_take hi] at ih
    rw [show l.length - (i + 1) + 1 = l.length - i by omega] at hst
    rw [hti] at hfl
    generalize fl (ints (l.take i)) (i64 0) (l.length - i) = C at *
    generalize fl (ints (l.take i) ++ [i64 l[i]]) (i64 0) (l.length - (i + 1)) = C' at *
    have hle : i + 1 ≤ C.length := by omega
    simp only [Nat.mul_one, AV.cells] at hst
    rw [WL_go (a := f66L0) (b := f66L0b) rfl]
    simp only [f66L0b, hints, hlen, hlt', hw1, hle, hst, W_start, ↓WS_seq, ↓WS_reg, ↓WS_cond, ↓WS_ret, ↓WS_skip, ↓WS_exit, ↓WS_block, ↓WS_loop, ↓WE_nil, ↓WE_sq_n, ↓WE_sq_r, ↓WE_sq_x, ↓WE_bk_n, ↓WE_bk_r, ↓WE_bk_x, ↓WE_lp_n, ↓WE_lp_r, ↓WE_lp_x, ↓WR_nil, ↓WR_cons, ↓WR_guard, WV_some, WT_bool, WT_int, WT_str, WT_nil, WT_ptr, WT_adr, WT_sl, WT_agg, WT_tup, WT_fn, WT_bsl, WT_und, WT_any, WC_bool, WG_bool, WG_und, SOp.ev, X.ev, updO_some, updO_none, ↓upd_same, ↓upd_ne, ↓reduceIte, pick, argEnv_cons, argEnv_nil, bot_at, endQ, resL, resA, oneOrTup, abin, ibin, Nat.reduceEqDiff, if_true, if_false, Option.map_some, seal_bool, seal_int, cond_true, cond_false, Bool.false_eq_true, reduceCtorEq, decide_eq_true_eq, and_self, and_true, true_and, AV.known, AV.cells, cut, List.length_cons, List.length_nil, List.length_map, List.drop_zero, List.drop_succ_cons, List.getElem?_cons_zero, List.getElem?_cons_succ, List.getElem?_append_right, List.getElem?_map, Nat.zero_add, Nat.add_zero, Nat.reduceAdd, Nat.reduceLeDiff, Nat.le_refl, List.nil_append, List.length_append, Int.toNat_natCast, Int.natCast_nonneg, Bool.not_true, Bool.not_false, beq_iff_eq, List.take_succ_cons, List.take_zero, Nat.reduceSub, Nat.sub_self, Nat.reduceMul, Nat.mul_one, evL, ne_eq, not_false_eq_true, get_last, set_last, okE, AV.bd, AV.bdL, Bool.and_self, Bool.and_true, Bool.true_and, List.all_cons, List.all_nil, AV.one, lay, List.set_cons_zero, List.append_nil, beq_self_eq_true, List.drop_nil, evP, fillA, Bool.false_xor, Bool.true_xor, Option.map_none, List.cons_append, hdOk, List.set_cons_succ]
    exact ih hx

theorem own66 (l : List Int) (hl : l.length ≤ 1048576) : ∀ tk0 : List (Nat × Nat),
    ∃ v tk ts, slO v (ints l) ts ∧ good ts tk0.length (tk0 ++ tk).length ∧ ∀ (fl : Bool) (B : List (List AV)) (a : AV), snapN 6 ⟨B, tk0⟩ a = some (.sl .sh (ints l)) → Cl T fl 66 [a] ⟨B, tk0⟩ = some (v, ⟨B, tk0 ++ tk⟩) := by
  refine own_sl (s := f66S) T_e66 T_f66 rfl (Nat.le_of_ble_eq_true rfl) (fun k => shiftL_ints k l) ?_
  have hlen : (ints l).length = l.length := by simp [ints]
  have h8 : (l.length : Int) * ((8 : Nat) : Int) ≤ 140737488355328 := by omega
  have h9 : (l.length : Int) ≤ 9223372036854775807 := by omega
  simp only [f66S, f66B, hlen, h8, h9, AV.isAgg, W_start, ↓WS_seq, ↓WS_reg, ↓WS_cond, ↓WS_ret, ↓WS_skip, ↓WS_exit, ↓WS_block, ↓WS_loop, ↓WE_nil, ↓WE_sq_n, ↓WE_sq_r, ↓WE_sq_x, ↓WE_bk_n, ↓WE_bk_r, ↓WE_bk_x, ↓WE_lp_n, ↓WE_lp_r, ↓WE_lp_x, ↓WR_nil, ↓WR_cons, ↓WR_guard, WV_some, WT_bool, WT_int, WT_str, WT_nil, WT_ptr, WT_adr, WT_sl, WT_agg, WT_tup, WT_fn, WT_bsl, WT_und, WT_any, WC_bool, WG_bool, WG_und, SOp.ev, X.ev, updO_some, updO_none, ↓upd_same, ↓upd_ne, ↓reduceIte, pick, argEnv_cons, argEnv_nil, bot_at, endQ, resL, resA, oneOrTup, abin, ibin, Nat.reduceEqDiff, if_true, if_false, Option.map_some, seal_bool, seal_int, cond_true, cond_false, Bool.false_eq_true, reduceCtorEq, decide_eq_true_eq, and_self, and_true, true_and, AV.known, AV.cells, cut, List.length_cons, List.length_nil, List.length_map, List.drop_zero, List.drop_succ_cons, List.getElem?_cons_zero, List.getElem?_cons_succ, List.getElem?_append_right, List.getElem?_map, Nat.zero_add, Nat.add_zero, Nat.reduceAdd, Nat.reduceLeDiff, Nat.le_refl, List.nil_append, List.length_append, Int.toNat_natCast, Int.natCast_nonneg, Bool.not_true, Bool.not_false, beq_iff_eq, List.take_succ_cons, List.take_zero, Nat.reduceSub, Nat.sub_self, Nat.reduceMul, Nat.mul_one, evL, ne_eq, not_false_eq_true, get_last, set_last, okE, AV.bd, AV.bdL, Bool.and_self, Bool.and_true, Bool.true_and, List.all_cons, List.all_nil, AV.one, lay, List.set_cons_zero, List.append_nil, beq_self_eq_true, List.drop_nil, evP, fillA, Bool.false_xor, Bool.true_xor, Option.map_none, List.cons_append, hdOk, List.set_cons_succ]
  have h0 := lp66 l hl
  refine h0 _ _ 0 (Nat.zero_le _) (fun e he => ?_)
  simp only [he, W_start, ↓WS_seq, ↓WS_reg, ↓WS_cond, ↓WS_ret, ↓WS_skip, ↓WS_exit, ↓WS_block, ↓WS_loop, ↓WE_nil, ↓WE_sq_n, ↓WE_sq_r, ↓WE_sq_x, ↓WE_bk_n, ↓WE_bk_r, ↓WE_bk_x, ↓WE_lp_n, ↓WE_lp_r, ↓WE_lp_x, ↓WR_nil, ↓WR_cons, ↓WR_guard, WV_some, WT_bool, WT_int, WT_str, WT_nil, WT_ptr, WT_adr, WT_sl, WT_agg, WT_tup, WT_fn, WT_bsl, WT_und, WT_any, WC_bool, WG_bool, WG_und, SOp.ev, X.ev, updO_some, updO_none, ↓upd_same, ↓upd_ne, ↓reduceIte, pick, argEnv_cons, argEnv_nil, bot_at, endQ, resL, resA, oneOrTup, abin, ibin, Nat.reduceEqDiff, if_true, if_false, Option.map_some, seal_bool, seal_int, cond_true, cond_false, Bool.false_eq_true, reduceCtorEq, decide_eq_true_eq, and_self, and_true, true_and, AV.known, AV.cells, cut, List.length_cons, List.length_nil, List.length_map, List.drop_zero, List.drop_succ_cons, List.getElem?_cons_zero, List.getElem?_cons_succ, List.getElem?_append_right, List.getElem?_map, Nat.zero_add, Nat.add_zero, Nat.reduceAdd, Nat.reduceLeDiff, Nat.le_refl, List.nil_append, List.length_append, Int.toNat_natCast, Int.natCast_nonneg, Bool.not_true, Bool.not_false, beq_iff_eq, List.take_succ_cons, List.take_zero, Nat.reduceSub, Nat.sub_self, Nat.reduceMul, Nat.mul_one, evL, ne_eq, not_false_eq_true, get_last, set_last, okE, AV.bd, AV.bdL, Bool.and_self, Bool.and_true, Bool.true_and, List.all_cons, List.all_nil, AV.one, lay, List.set_cons_zero, List.append_nil, beq_self_eq_true, List.drop_nil, evP, fillA, Bool.false_xor, Bool.true_xor, Option.map_none, List.cons_append, hdOk, List.set_cons_succ]
  rcases Nat.eq_zero_or_pos l.length with hz | hz
  · obtain rfl : l = [] := List.length_eq_zero_iff.1 hz
    exact ⟨_, _, sealR_of (acc := []) rfl rfl rfl, [], ⟨.sh, rfl, Or.inl ⟨rfl, rfl⟩⟩, good_nil (Nat.zero_le _)⟩
  · have hne : ints l ≠ [] := fun h => by rw [← hlen, h] at hz; exact Nat.lt_irrefl _ hz
    have := seal_bsl (M := ⟨[ints l], []⟩) (b := 0) (sz := 1) (ag := false) (xs := ints l) (acc := []) 5 hne (by rw [flat_ints]; rfl) (by rw [flat_ints]; omega) (by rw [flat_ints]; exact mapA_plain 4 _ _ [] (plain_ints l)) (ys := ints l) (by simp only [elems, one_ints, and_self, if_true, Bool.false_eq_true, if_false])
    rw [hlen] at this
    exact ⟨_, _, sealR_of this (by simp only [own, ownL_ints]) rfl, [0], ⟨_, rfl, Or.inr ⟨hne, _, rfl, rfl⟩⟩, good_one (Nat.zero_le _) (by simp)⟩
end Go.Proofs.Ytnehpfaafgnnpaa

namespace Go.Proofs.Ytnehpfaafgnnpaa
open Go.AM Go.AM.AV

theorem cl88 (fl : Bool) (M : Mem) (x y : Int) : Cl T fl 88 [.agg [i64 x, i64 y]] M = some (.agg [i64 x, i64 y], M) := by
  refine cl_pure (r := .agg [i64 x, i64 y]) T_e88 T_f88 rfl rfl (Nat.le_of_ble_eq_true rfl) ?_
  simp only [f88S, f88B, W_start, ↓WS_seq, ↓WS_reg, ↓WS_cond, ↓WS_ret, ↓WS_skip, ↓WS_exit, ↓WS_block, ↓WS_loop, ↓WE_nil, ↓WE_sq_n, ↓WE_sq_r, ↓WE_sq_x, ↓WE_bk_n, ↓WE_bk_r, ↓WE_bk_x, ↓WE_lp_n, ↓WE_lp_r, ↓WE_lp_x, ↓WR_nil, ↓WR_cons, ↓WR_guard, WV_some, WT_bool, WT_int, WT_str, WT_nil, WT_ptr, WT_adr, WT_sl, WT_agg, WT_tup, WT_fn, WT_bsl, WT_und, WT_any, WC_bool, WG_bool, WG_und, SOp.ev, X.ev, updO_some, updO_none, ↓upd_same, ↓upd_ne, ↓reduceIte, pick, argEnv_cons, argEnv_nil, bot_at, endQ, resL, resA, oneOrTup, abin, ibin, Nat.reduceEqDiff, if_true, if_false, Option.map_some, seal_bool, seal_int, cond_true, cond_false, Bool.false_eq_true, reduceCtorEq, decide_eq_true_eq, and_self, and_true, true_and, AV.known, AV.cells, cut, List.length_cons, List.length_nil, List.length_map, List.drop_zero, List.drop_succ_cons, List.getElem?_cons_zero, List.getElem?_cons_succ, List.getElem?_append_right, List.getElem?_map, Nat.zero_add, Nat.add_zero, Nat.reduceAdd, Nat.reduceLeDiff, Nat.le_refl, List.nil_append, List.length_append, Int.toNat_natCast, Int.natCast_nonneg, Bool.not_true, Bool.not_false, beq_iff_eq, List.take_succ_cons, List.take_zero, Nat.reduceSub, Nat.sub_self, Nat.reduceMul, Nat.mul_one, evL, ne_eq, not_false_eq_true, get_last, set_last, okE, AV.bd, AV.bdL, Bool.and_self, Bool.and_true, Bool.true_and, List.all_cons, List.all_nil, AV.one, lay, List.set_cons_zero, List.append_nil, beq_self_eq_true, List.drop_nil, evP, fillA, Bool.false_xor, Bool.true_xor, Option.map_none, List.cons_append, hdOk, List.set_cons_succ]
  exact ⟨_, rfl⟩
theorem cl87 (fl : Bool) (M : Mem) (a b c d : Int) : Cl T fl 87 [.agg [i64 a, i64 b, i64 c, i64 d]] M = some (.agg [i64 a, i64 b, i64 c, i64 d], M) := by
  refine cl_pure (r := .agg [i64 a, i64 b, i64 c, i64 d]) T_e87 T_f87 rfl rfl (Nat.le_of_ble_eq_true rfl) ?_
  simp only [f87S, f87B, W_start, ↓WS_seq, ↓WS_reg, ↓WS_cond, ↓WS_ret, ↓WS_skip, ↓WS_exit, ↓WS_block, ↓WS_loop, ↓WE_nil, ↓WE_sq_n, ↓WE_sq_r, ↓WE_sq_x, ↓WE_bk_n, ↓WE_bk_r, ↓WE_bk_x, ↓WE_lp_n, ↓WE_lp_r, ↓WE_lp_x, ↓WR_nil, ↓WR_cons, ↓WR_guard, WV_some, WT_bool, WT_int, WT_str, WT_nil, WT_ptr, WT_adr, WT_sl, WT_agg, WT_tup, WT_fn, WT_bsl, WT_und, WT_any, WC_bool, WG_bool, WG_und, SOp.ev, X.ev, updO_some, updO_none, ↓upd_same, ↓upd_ne, ↓reduceIte, pick, argEnv_cons, argEnv_nil, bot_at, endQ, resL, resA, oneOrTup, abin, ibin, Nat.reduceEqDiff, if_true, if_false, Option.map_some, seal_bool, seal_int, cond_true, cond_false, Bool.false_eq_true, reduceCtorEq, decide_eq_true_eq, and_self, and_true, true_and, AV.known, AV.cells, cut, List.length_cons, List.length_nil, List.length_map, List.drop_zero, List.drop_succ_cons, List.getElem?_cons_zero, List.getElem?_cons_succ, List.getElem?_append_right, List.getElem?_map, Nat.zero_add, Nat.add_zero, Nat.reduceAdd, Nat.reduceLeDiff, Nat.le_refl, List.nil_append, List.length_append, Int.toNat_natCast, Int.natCast_nonneg, Bool.not_true, Bool.not_false, beq_iff_eq, List.take_succ_cons, List.take_zero, Nat.reduceSub, Nat.sub_self, Nat.reduceMul, Nat.mul_one, evL, ne_eq, not_false_eq_true, get_last, set_last, okE, AV.bd, AV.bdL, Bool.and_self, Bool.and_true, Bool.true_and, List.all_cons, List.all_nil, AV.one, lay, List.set_cons_zero, List.append_nil, beq_self_eq_true, List.drop_nil, evP, fillA, Bool.false_xor, Bool.true_xor, Option.map_none, List.cons_append, hdOk, List.set_cons_succ]
  exact ⟨_, rfl⟩
theorem cl64 (fl : Bool) (M : Mem) (a b c d e f : Int) : Cl T fl 64 [.agg [i64 a, i64 b, i64 c, i64 d, i64 e, i64 f]] M = some (.agg [i64 a, i64 b, i64 c, i64 d, i64 e, i64 f], M) := by
  refine cl_pure (r := .agg [i64 a, i64 b, i64 c, i64 d, i64 e, i64 f]) T_e64 T_f64 rfl rfl (Nat.le_of_ble_eq_true rfl) ?_
  simp only [f64S, f64B, W_start, ↓WS_seq, ↓WS_reg, ↓WS_cond, ↓WS_ret, ↓WS_skip, ↓WS_exit, ↓WS_block, ↓WS_loop, ↓WE_nil, ↓WE_sq_n, ↓WE_sq_r, ↓WE_sq_x, ↓WE_bk_n, ↓WE_bk_r, ↓WE_bk_x, ↓WE_lp_n, ↓WE_lp_r, ↓WE_lp_x, ↓WR_nil, ↓WR_cons, ↓WR_guard, WV_some, WT_bool, WT_int, WT_str, WT_nil, WT_ptr, WT_adr, WT_sl, WT_agg, WT_tup, WT_fn, WT_bsl, WT_und, WT_any, WC_bool, WG_bool, WG_und, SOp.ev, X.ev, updO_some, updO_none, ↓upd_same, ↓upd_ne, ↓reduceIte, pick, argEnv_cons, argEnv_nil, bot_at, endQ, resL, resA, oneOrTup, abin, ibin, Nat.reduceEqDiff, if_true, if_false, Option.map_some, seal_bool, seal_int, cond_true, cond_false, Bool.false_eq_true, reduceCtorEq, decide_eq_true_eq, and_self, and_true, true_and, AV.known, AV.cells, cut, List.length_cons, List.length_nil, List.length_map, List.drop_zero, List.drop_succ_cons, List.getElem?_cons_zero, List.getElem?_cons_succ, List.getElem?_append_right, List.getElem?_map, Nat.zero_add, Nat.add_zero, Nat.reduceAdd, Nat.reduceLeDiff, Nat.le_refl, List.nil_append, List.length_append, Int.toNat_natCast, Int.natCast_nonneg, Bool.not_true, Bool.not_false, beq_iff_eq, List.take_succ_cons, List.take_zero, Nat.reduceSub, Nat.sub_self, Nat.reduceMul, Nat.mul_one, evL, ne_eq, not_false_eq_true, get_last, set_last, okE, AV.bd, AV.bdL, Bool.and_self, Bool.and_true, Bool.true_and, List.all_cons, List.all_nil, AV.one, lay, List.set_cons_zero, List.append_nil, beq_self_eq_true, List.drop_nil, evP, fillA, Bool.false_xor, Bool.true_xor, Option.map_none, List.cons_append, hdOk, List.set_cons_succ]
  exact ⟨_, rfl⟩
theorem cl67 (fl : Bool) (M : Mem) (p : Pnt) : Cl T fl 67 [.agg (pntC p)] M = some (.agg (pntC p), M) := by
  refine cl_pure (r := .agg (pntC p)) T_e67 T_f67 rfl rfl (Nat.le_of_ble_eq_true rfl) ?_
  simp only [f67S, f67B, pntC, cl87, cl88, W_start, ↓WS_seq, ↓WS_reg, ↓WS_cond, ↓WS_ret, ↓WS_skip, ↓WS_exit, ↓WS_block, ↓WS_loop, ↓WE_nil, ↓WE_sq_n, ↓WE_sq_r, ↓WE_sq_x, ↓WE_bk_n, ↓WE_bk_r, ↓WE_bk_x, ↓WE_lp_n, ↓WE_lp_r, ↓WE_lp_x, ↓WR_nil, ↓WR_cons, ↓WR_guard, WV_some, WT_bool, WT_int, WT_str, WT_nil, WT_ptr, WT_adr, WT_sl, WT_agg, WT_tup, WT_fn, WT_bsl, WT_und, WT_any, WC_bool, WG_bool, WG_und, SOp.ev, X.ev, updO_some, updO_none, ↓upd_same, ↓upd_ne, ↓reduceIte, pick, argEnv_cons, argEnv_nil, bot_at, endQ, resL, resA, oneOrTup, abin, ibin, Nat.reduceEqDiff, if_true, if_false, Option.map_some, seal_bool, seal_int, cond_true, cond_false, Bool.false_eq_true, reduceCtorEq, decide_eq_true_eq, and_self, and_true, true_and, AV.known, AV.cells, cut, List.length_cons, List.length_nil, List.length_map, List.drop_zero, List.drop_succ_cons, List.getElem?_cons_zero, List.getElem?_cons_succ, List.getElem?_append_right, List.getElem?_map, Nat.zero_add, Nat.add_zero, Nat.reduceAdd, Nat.reduceLeDiff, Nat.le_refl, List.nil_append, List.length_append, Int.toNat_natCast, Int.natCast_nonneg, Bool.not_true, Bool.not_false, beq_iff_eq, List.take_succ_cons, List.take_zero, Nat.reduceSub, Nat.sub_self, Nat.reduceMul, Nat.mul_one, evL, ne_eq, not_false_eq_true, get_last, set_last, okE, AV.bd, AV.bdL, Bool.and_self, Bool.and_true, Bool.true_and, List.all_cons, List.all_nil, AV.one, lay, List.set_cons_zero, List.append_nil, beq_self_eq_true, List.drop_nil, evP, fillA, Bool.false_xor, Bool.true_xor, Option.map_none, List.cons_append, hdOk, List.set_cons_succ]
  exact ⟨_, rfl⟩

theorem lp86 (l : List Pt) (hl : l.length ≤ 1048576) (st : List Fr) (Q : Ex → Env → Mem → Prop) :
    ∀ i, i ≤ l.length →
      (∀ e : Env, e 3 = .bsl 0 0 l.length 2 true → WE T (.exit 0) st e ⟨[flat (pts l)], []⟩ Q) →
      WL T [0, 3, 4] f86L0 st (upd (upd (upd bot 4 (i64 i)) 3 (.bsl 0 0 l.length 2 true)) 0 (.sl .sh (pts l))) ⟨[fl (pts (l.take i)) (.agg [i64 0, i64 0]) (l.length - i)], []⟩ Q := by
  refine upto _ ?_ fun i hi ih hx => ?_
  · intro hx
    rw [WL_go (a := f86L0) (b := f86L0b) rfl]
    rw [List.take_length, Nat.sub_self, fl_n]
    simp only [f86L0b, pts, Int.lt_irrefl, W_start, ↓WS_seq, ↓WS_reg, ↓WS_cond, ↓WS_ret, ↓WS_skip, ↓WS_exit, ↓WS_block, ↓WS_loop, ↓WE_nil, ↓WE_sq_n, ↓WE_sq_r, ↓WE_sq_x, ↓WE_bk_n, ↓WE_bk_r, ↓WE_bk_x, ↓WE_lp_n, ↓WE_lp_r, ↓WE_lp_x, ↓WR_nil, ↓WR_cons, ↓WR_guard, WV_some, WT_bool, WT_int, WT_str, WT_nil, WT_ptr, WT_adr, WT_sl, WT_agg, WT_tup, WT_fn, WT_bsl, WT_und, WT_any, WC_bool, WG_bool, WG_und, SOp.ev, X.ev, updO_some, updO_none, ↓upd_same, ↓upd_ne, ↓reduceIte, pick, argEnv_cons, argEnv_nil, bot_at, endQ, resL, resA, oneOrTup, abin, ibin, Nat.reduceEqDiff, if_true, if_false, Option.map_some, seal_bool, seal_int, cond_true, cond_false, Bool.false_eq_true, reduceCtorEq, decide_eq_true_eq, and_self, and_true, true_and, AV.known, AV.cells, cut, List.length_cons, List.length_nil, List.length_map, List.drop_zero, List.drop_succ_cons, List.getElem?_cons_zero, List.getElem?_cons_succ, List.getElem?_append_right, List.getElem?_map, Nat.zero_add, Nat.add_zero, Nat.reduceAdd, Nat.reduceLeDiff, Nat.le_refl, List.nil_append, List.length_append, Int.toNat_natCast, Int.natCast_nonneg, Bool.not_true, Bool.not_false, beq_iff_eq, List.take_succ_cons, List.take_zero, Nat.reduceSub, Nat.sub_self, Nat.reduceMul, Nat.mul_one, evL, ne_eq, not_false_eq_true, get_last, set_last, okE, AV.bd, AV.bdL, Bool.and_self, Bool.and_true, Bool.true_and, List.all_cons, List.all_nil, AV.one, lay, List.set_cons_zero, List.append_nil, beq_self_eq_true, List.drop_nil, evP, fillA, Bool.false_xor, Bool.true_xor, Option.map_none, List.cons_append, hdOk, List.set_cons_succ]
    exact hx _ rfl
  · have hget : l[i]? = some l[i] := List.getElem?_eq_getElem hi
    have hpts : (pts l)[i]? = some (.agg [i64 l[i].x, i64 l[i].y]) := by simp [pts, hget, ptE]
    have hlen : (pts l).length = l.length := by simp [pts]
    have hlt' : (i : Int) < l.length := by omega
    have hw1 : IntKind.i64.wrap ((i : Int) + 1) = i + 1 := wrap_ok (by omega)
    have hti : (pts (l.take i)).length = i := by simp [pts]; omega
    have hst := fl_step (ns := pts (l.take i)) (z := .agg [i64 0, i64 0]) (x := ptE l[i]) (sz := 2) (m := l.length - (i + 1)) (i := i) (pts_cl _) rfl rfl hti
    have hfl := fl_len (ns := pts (l.take i)) (z := .agg [i64 0, i64 0]) (sz := 2) (m := l.length - i) (pts_cl _) rfl
    rw [pts_take hi] at ih
    rw [show l.length - (i + 1) + 1 = l.length - i by omega] at hst
    rw [hti] at hfl
    generalize fl (pts (l.take i)) (.agg [i64 0, i64 0]) (l.length - i) = C at *
    generalize fl (pts (l.take i) ++ [ptE l[i]]) (.agg [i64 0, i64 0]) (l.length - (i + 1)) = C' at *
    have hle : i * 2 + 2 ≤ C.length := by omega
    simp only [ptE, AV.cells] at hst
    rw [WL_go (a := f86L0) (b := f86L0b) rfl]
    simp only [f86L0b, hpts, hlen, hlt', hw1, hle, hst, cl88, W_start, ↓WS_seq, ↓WS_reg, ↓WS_cond, ↓WS_ret, ↓WS_skip, ↓WS_exit, ↓WS_block, ↓WS_loop, ↓WE_nil, ↓WE_sq_n, ↓WE_sq_r, ↓WE_sq_x, ↓WE_bk_n, ↓WE_bk_r, ↓WE_bk_x, ↓WE_lp_n, ↓WE_lp_r, ↓WE_lp_x, ↓WR_nil, ↓WR_cons, ↓WR_guard, WV_some, WT_bool, WT_int, WT_str, WT_nil, WT_ptr, WT_adr, WT_sl, WT_agg, WT_tup, WT_fn, WT_bsl, WT_und, WT_any, WC_bool, WG_bool, WG_und, SOp.ev, X.ev, updO_some, updO_none, ↓upd_same, ↓upd_ne, ↓reduceIte, pick, argEnv_cons, argEnv_nil, bot_at, endQ, resL, resA, oneOrTup, abin, ibin, Nat.reduceEqDiff, if_true, if_false, Option.map_some, seal_bool, seal_int, cond_true, cond_false, Bool.false_eq_true, reduceCtorEq, decide_eq_true_eq, and_self, and_true, true_and, AV.known, AV.cells, cut, List.length_cons, List.length_nil, List.length_map, List.drop_zero, List.drop_succ_cons, List.getElem?_cons_zero, List.getElem?_cons_succ, List.getElem?_append_right, List.getElem?_map, Nat.zero_add, Nat.add_zero, Nat.reduceAdd, Nat.reduceLeDiff, Nat.le_refl, List.nil_append, List.length_append, Int.toNat_natCast, Int.natCast_nonneg, Bool.not_true, Bool.not_false, beq_iff_eq, List.take_succ_cons, List.take_zero, Nat.reduceSub, Nat.sub_self, Nat.reduceMul, Nat.mul_one, evL, ne_eq, not_false_eq_true, get_last, set_last, okE, AV.bd, AV.bdL, Bool.and_self, Bool.and_true, Bool.true_and, List.all_cons, List.all_nil, AV.one, lay, List.set_cons_zero, List.append_nil, beq_self_eq_true, List.drop_nil, evP, fillA, Bool.false_xor, Bool.true_xor, Option.map_none, List.cons_append, hdOk, List.set_cons_succ]
    exact ih hx

theorem own86 (l : List Pt) (hl : l.length ≤ 1048576) : ∀ tk0 : List (Nat × Nat),
    ∃ v tk ts, slO v (pts l) ts ∧ good ts tk0.length (tk0 ++ tk).length ∧ ∀ (fl : Bool) (B : List (List AV)) (a : AV), snapN 6 ⟨B, tk0⟩ a = some (.sl .sh (pts l)) → Cl T fl 86 [a] ⟨B, tk0⟩ = some (v, ⟨B, tk0 ++ tk⟩) := by
  refine own_sl (s := f86S) T_e86 T_f86 rfl (Nat.le_of_ble_eq_true rfl) (fun k => shiftL_pts k l) ?_
  have hlen : (pts l).length = l.length := by simp [pts]
  have h8 : (l.length : Int) * ((16 : Nat) : Int) ≤ 140737488355328 := by omega
  have h9 : (l.length : Int) ≤ 9223372036854775807 := by omega
  simp only [f86S, f86B, hlen, h8, h9, AV.isAgg, W_start, ↓WS_seq, ↓WS_reg, ↓WS_cond, ↓WS_ret, ↓WS_skip, ↓WS_exit, ↓WS_block, ↓WS_loop, ↓WE_nil, ↓WE_sq_n, ↓WE_sq_r, ↓WE_sq_x, ↓WE_bk_n, ↓WE_bk_r, ↓WE_bk_x, ↓WE_lp_n, ↓WE_lp_r, ↓WE_lp_x, ↓WR_nil, ↓WR_cons, ↓WR_guard, WV_some, WT_bool, WT_int, WT_str, WT_nil, WT_ptr, WT_adr, WT_sl, WT_agg, WT_tup, WT_fn, WT_bsl, WT_und, WT_any, WC_bool, WG_bool, WG_und, SOp.ev, X.ev, updO_some, updO_none, ↓upd_same, ↓upd_ne, ↓reduceIte, pick, argEnv_cons, argEnv_nil, bot_at, endQ, resL, resA, oneOrTup, abin, ibin, Nat.reduceEqDiff, if_true, if_false, Option.map_some, seal_bool, seal_int, cond_true, cond_false, Bool.false_eq_true, reduceCtorEq, decide_eq_true_eq, and_self, and_true, true_and, AV.known, AV.cells, cut, List.length_cons, List.length_nil, List.length_map, List.drop_zero, List.drop_succ_cons, List.getElem?_cons_zero, List.getElem?_cons_succ, List.getElem?_append_right, List.getElem?_map, Nat.zero_add, Nat.add_zero, Nat.reduceAdd, Nat.reduceLeDiff, Nat.le_refl, List.nil_append, List.length_append, Int.toNat_natCast, Int.natCast_nonneg, Bool.not_true, Bool.not_false, beq_iff_eq, List.take_succ_cons, List.take_zero, Nat.reduceSub, Nat.sub_self, Nat.reduceMul, Nat.mul_one, evL, ne_eq, not_false_eq_true, get_last, set_last, okE, AV.bd, AV.bdL, Bool.and_self, Bool.and_true, Bool.true_and, List.all_cons, List.all_nil, AV.one, lay, List.set_cons_zero, List.append_nil, beq_self_eq_true, List.drop_nil, evP, fillA, Bool.false_xor, Bool.true_xor, Option.map_none, List.cons_append, hdOk, List.set_cons_succ]
  have h0 := lp86 l hl
  refine h0 _ _ 0 (Nat.zero_le _) (fun e he => ?_)
  simp only [he, W_start, ↓WS_seq, ↓WS_reg, ↓WS_cond, ↓WS_ret, ↓WS_skip, ↓WS_exit, ↓WS_block, ↓WS_loop, ↓WE_nil, ↓WE_sq_n, ↓WE_sq_r, ↓WE_sq_x, ↓WE_bk_n, ↓WE_bk_r, ↓WE_bk_x, ↓WE_lp_n, ↓WE_lp_r, ↓WE_lp_x, ↓WR_nil, ↓WR_cons, ↓WR_guard, WV_some, WT_bool, WT_int, WT_str, WT_nil, WT_ptr, WT_adr, WT_sl, WT_agg, WT_tup, WT_fn, WT_bsl, WT_und, WT_any, WC_bool, WG_bool, WG_und, SOp.ev, X.ev, updO_some, updO_none, ↓upd_same, ↓upd_ne, ↓reduceIte, pick, argEnv_cons, argEnv_nil, bot_at, endQ, resL, resA, oneOrTup, abin, ibin, Nat.reduceEqDiff, if_true, if_false, Option.map_some, seal_bool, seal_int, cond_true, cond_false, Bool.false_eq_true, reduceCtorEq, decide_eq_true_eq, and_self, and_true, true_and, AV.known, AV.cells, cut, List.length_cons, List.length_nil, List.length_map, List.drop_zero, List.drop_succ_cons, List.getElem?_cons_zero, List.getElem?_cons_succ, List.getElem?_append_right, List.getElem?_map, Nat.zero_add, Nat.add_zero, Nat.reduceAdd, Nat.reduceLeDiff, Nat.le_refl, List.nil_append, List.length_append, Int.toNat_natCast, Int.natCast_nonneg, Bool.not_true, Bool.not_false, beq_iff_eq, List.take_succ_cons, List.take_zero, Nat.reduceSub, Nat.sub_self, Nat.reduceMul, Nat.mul_one, evL, ne_eq, not_false_eq_true, get_last, set_last, okE, AV.bd, AV.bdL, Bool.and_self, Bool.and_true, Bool.true_and, List.all_cons, List.all_nil, AV.one, lay, List.set_cons_zero, List.append_nil, beq_self_eq_true, List.drop_nil, evP, fillA, Bool.false_xor, Bool.true_xor, Option.map_none, List.cons_append, hdOk, List.set_cons_succ]
  rcases Nat.eq_zero_or_pos l.length with hz | hz
  · obtain rfl : l = [] := List.length_eq_zero_iff.1 hz
    exact ⟨_, _, sealR_of (acc := []) rfl rfl rfl, [], ⟨.sh, rfl, Or.inl ⟨rfl, rfl⟩⟩, good_nil (Nat.zero_le _)⟩
  · have hne : pts l ≠ [] := fun h => by rw [← hlen, h] at hz; exact Nat.lt_irrefl _ hz
    have := seal_bsl (M := ⟨[flat (pts l)], []⟩) (b := 0) (sz := 2) (ag := true) (xs := pts l) (acc := []) 5 hne rfl (flat_len 2 _ (pts_cl l)) (mapA_plain 4 _ _ [] (plain_pts l)) (ys := pts l) (by simp only [elems, if_true, chunk_flat 2 _ (pts_agg l)])
    rw [hlen] at this
    exact ⟨_, _, sealR_of this (by simp only [own, ownL_pts]) rfl, [0], ⟨_, rfl, Or.inr ⟨hne, _, rfl, rfl⟩⟩, good_one (Nat.zero_le _) (by simp)⟩

/-! ### Paths -/
def pthO (r : AV) (p : Pth) (ts : List Nat) : Prop := ∃ v q t1 t2, r = .agg [v, q] ∧ slO v (ints p.verbs) t1 ∧ slO q (pts p.points) t2 ∧ ts = t1 ++ t2
theorem pthO_shift {r : AV} {p : Pth} {ts : List Nat} (k : Nat) (h : pthO r p ts) : pthO (r.shift k) p (ts.map (· + k)) := by
  obtain ⟨v, q, t1, t2, rfl, h1, h2, rfl⟩ := h
  exact ⟨v.shift k, q.shift k, _, _, rfl, slO_shift k (shiftL_ints k _) h1, slO_shift k (shiftL_pts k _) h2, List.map_append⟩
theorem own_g {f : FuncId} {s : SFun} {a0 : AV} {O : AV → List Nat → Prop} (h1 : T.ext f = none) (h2 : T.fn f = some s) (h3 : s.mode = .own) (hn : [a0].length ≤ s.nt) (hO : ∀ r ts k, O r ts → O (r.shift k) (ts.map (· + k)))
    (h : W T s.body (argEnv 0 [a0]) ⟨[], []⟩ (endQ s fun v M' => ∃ r ts, sealR v M' = some (r, ts) ∧ ∃ t, O r t ∧ good t 0 ts.length)) (tk0 : List (Nat × Nat)) :
    ∃ v tk ts, O v ts ∧ good ts tk0.length (tk0 ++ tk).length ∧ ∀ (fl : Bool) (B : List (List AV)) (a : AV), snapN 6 ⟨B, tk0⟩ a = some a0 → Cl T fl f [a] ⟨B, tk0⟩ = some (v, ⟨B, tk0 ++ tk⟩) := by
  obtain ⟨r, tk, ⟨ts, hs, hg⟩, hc⟩ := own_ex h1 h2 h3 hn h
  refine ⟨r.shift tk0.length, tk, ts.map (· + tk0.length), hO _ _ _ hs, ?_, fun fl B a ha => ?_⟩
  · have := good_shift hg tk0.length
    rw [List.length_append, Nat.add_comm tk0.length]
    rwa [Nat.zero_add] at this
  · exact hc fl ⟨B, tk0⟩ [a] (by simp only [snapL, mapO, ha])
theorem seal_agg2 {t1 t2 : Tok} {xs ys : List AV} {M : Mem} : sealN 6 M (.agg [.sl t1 xs, .sl t2 ys]) [] = some (.agg [.sl t1 xs, .sl t2 ys], []) := rfl

theorem pthO_own {r : AV} {p : Pth} {ts : List Nat} (h : pthO r p ts) : own r = true := by
  obtain ⟨v, q, t1, t2, rfl, h1, h2, -⟩ := h
  simp only [own, ownL, slO_own h1 (ownL_ints _), slO_own h2 (ownL_pts _), Bool.and_self]

theorem own65 (p : Pth) (hv : p.verbs.length ≤ 1048576) (hp : p.points.length ≤ 1048576) : ∀ tk0 : List (Nat × Nat),
    ∃ v tk ts, pthO v p ts ∧ good ts tk0.length (tk0 ++ tk).length ∧ ∀ (fl : Bool) (B : List (List AV)) (a : AV), snapN 6 ⟨B, tk0⟩ a = some (.agg (pthC p)) → Cl T fl 65 [a] ⟨B, tk0⟩ = some (v, ⟨B, tk0 ++ tk⟩) := by
  refine own_g (s := f65S) T_e65 T_f65 rfl (Nat.le_of_ble_eq_true rfl) (fun r ts k h => pthO_shift k h) ?_
  obtain ⟨_, tk1, ts1, ⟨tok1, rfl, o1⟩, g1, h1⟩ := own66 p.verbs hv []
  have h1' := fun fl B => h1 fl B (.sl .sh (ints p.verbs)) (snap_ints 5 _ _ _)
  obtain ⟨_, tk2, ts2, ⟨tok2, rfl, o2⟩, g2, h2⟩ := own86 p.points hp tk1
  have h2' := fun fl B => h2 fl B (.sl .sh (pts p.points)) (snap_pts 5 _ _ _)
  simp only [f65S, f65B, pthC, h1', h2', List.nil_append, len_nd, ↓cut_nd, all_nd, bdL_nd, ↓lay_nd, nd_0, nd_1, nd_2, List.getElem?_drop, List.length_drop, bdL_ints, bdL_pts, W_start, ↓WS_seq, ↓WS_reg, ↓WS_cond, ↓WS_ret, ↓WS_skip, ↓WS_exit, ↓WS_block, ↓WS_loop, ↓WE_nil, ↓WE_sq_n, ↓WE_sq_r, ↓WE_sq_x, ↓WE_bk_n, ↓WE_bk_r, ↓WE_bk_x, ↓WE_lp_n, ↓WE_lp_r, ↓WE_lp_x, ↓WR_nil, ↓WR_cons, ↓WR_guard, WV_some, WT_bool, WT_int, WT_str, WT_nil, WT_ptr, WT_adr, WT_sl, WT_agg, WT_tup, WT_fn, WT_bsl, WT_und, WT_any, WC_bool, WG_bool, WG_und, SOp.ev, X.ev, updO_some, updO_none, ↓upd_same, ↓upd_ne, ↓reduceIte, pick, argEnv_cons, argEnv_nil, bot_at, endQ, resL, resA, oneOrTup, abin, ibin, Nat.reduceEqDiff, if_true, if_false, Option.map_some, seal_bool, seal_int, cond_true, cond_false, Bool.false_eq_true, reduceCtorEq, decide_eq_true_eq, and_self, and_true, true_and, AV.known, AV.cells, cut, List.length_cons, List.length_nil, List.length_map, List.drop_zero, List.drop_succ_cons, List.getElem?_cons_zero, List.getElem?_cons_succ, List.getElem?_append_right, List.getElem?_map, Nat.zero_add, Nat.add_zero, Nat.reduceAdd, Nat.reduceLeDiff, Nat.le_refl, List.nil_append, List.length_append, Int.toNat_natCast, Int.natCast_nonneg, Bool.not_true, Bool.not_false, beq_iff_eq, List.take_succ_cons, List.take_zero, Nat.reduceSub, Nat.sub_self, Nat.reduceMul, Nat.mul_one, evL, ne_eq, not_false_eq_true, get_last, set_last, okE, AV.bd, AV.bdL, Bool.and_self, Bool.and_true, Bool.true_and, List.all_cons, List.all_nil, AV.one, lay, List.set_cons_zero, List.append_nil, beq_self_eq_true, List.drop_nil, evP, fillA, Bool.false_xor, Bool.true_xor, Option.map_none, List.cons_append, hdOk, List.set_cons_succ]
  have hr := pthO_own (r := .agg [.sl tok1 (ints p.verbs), .sl tok2 (pts p.points)]) ⟨_, _, ts1, ts2, rfl, ⟨tok1, rfl, o1⟩, ⟨tok2, rfl, o2⟩, rfl⟩
  refine ⟨_, _, sealR_of (acc := []) rfl hr rfl, ts1 ++ ts2, ⟨_, _, ts1, ts2, rfl, ⟨tok1, rfl, o1⟩, ⟨tok2, rfl, o2⟩, rfl⟩, ?_⟩
  simp only [List.map_nil, List.append_nil]
  exact good_app (by simpa using g1) g2
end Go.Proofs.Ytnehpfaafgnnpaa
