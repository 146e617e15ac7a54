/- slices.Clone: what is told of it holds. slices.Clone does what the table tells of it; so the whole table holds of the program. The row of laws.FnExactDropNode: whatever the input, the law answers true, and the input reads as it did. -/
import Derived.Test.YtnehpfaafgnnpaaMG
import Derived.Laws.Cover3
import Derived.ProofKit
import Derived.Test.YtnehpfaafgnnpaaML
import Derived.Test.YtnehpfaafgnnpaaRows
import Derived.Test.YtnehpfaafgnnpaaND
set_option linter.unusedSimpArgs false
set_option linter.unusedVariables false
set_option linter.unnecessarySimpa false
namespace Go.AM
open AV Go.RowKit

section
variable {P : Program}
def T0 : Tab := ⟨fun _ => none, fun _ => none⟩
theorem T0_ok (hm : P.follows .mixedOrders = true) : TabOk P T0 := ⟨hm, fun _ _ h => (by cases h), fun _ _ h => (by cases h)⟩

theorem clone_d {e : Env} {sz bytes : Nat} {tok : Tok} {xs : List AV} (he : e 0 = .sl tok xs) (hz : 0 < sz) (hx : xs.all (okE sz) = true) (hl : xs.length * bytes ≤ 140737488355328) :
    Dinf T0 (.seq (.reg false [⟨none, some 5, .be⟩, ⟨none, some 6, .mv (.t 0)⟩, ⟨none, some 7, .app sz bytes (.t 5) (.t 6)⟩, ⟨none, some 2, .mv (.t 7)⟩]) .ret) e ⟨[], []⟩ =
      match xs with
      | [] => some (.ret, upd (upd (upd (upd e 5 (.sl .nl [])) 6 (.sl tok [])) 7 (.sl .nl [])) 2 (.sl .nl []), ⟨[], []⟩)
      | y :: ys => some (.ret, upd (upd (upd (upd e 5 (.sl .nl [])) 6 (.sl tok (y :: ys))) 7 (.sl (.ow 0) (y :: ys))) 2 (.sl (.ow 0) (y :: ys)), ⟨[], [((y :: ys).length, sz)]⟩) := by
  have hl' : (([] : List AV).length + xs.length) * bytes ≤ 140737488355328 := by simpa using hl
  rw [Dinf_seq, Dinf_reg]
  simp only [evOps, SI.ev, wantA, SOp.ev, X.ev, updO, upd_same, upd_ne _ _ _ _ (show (0 : Nat) ≠ 5 by decide), upd_ne _ _ _ _ (show (5 : Nat) ≠ 6 by decide), he]
  have hc := And.intro hx (And.intro hl' hz)
  cases xs with
  | nil => simp only [appA, if_pos hc]; simp only [upd_same, Option.map]; rw [Dinf_ret]
  | cons y ys => simp only [appA, if_pos hc]; simp only [upd_same, Option.map]; rw [Dinf_ret]; rfl

theorem clone_z {e : Env} : Dinf T0 (.seq (.reg false [⟨none, some 2, .mv (.c (.sl .nl []))⟩]) .ret) e ⟨[], []⟩ = some (.ret, upd e 2 (.sl .nl []), ⟨[], []⟩) := by
  rw [Dinf_seq, Dinf_reg]
  show Dinf T0 .ret _ _ = _
  rw [Dinf_ret]
  rfl

theorem clone_solo {f : FuncId} {fn : Func} {c0 c2 c3 : Code} {id1 : Nat} {o1 o2 : Oper} {t te ty : TypeId} {sz bytes : Nat} (hm : P.follows .mixedOrders = true) (hf : P.funcs[f]? = some fn)
    (hb : fn.body = some (c0.seq (((Code.region id1 #[o1, o2] false).seq (.cond (.tmp 4) c2 .skip)).seq c3))) (hn : fn.ntmps = 8) (hr : slimRs P fn.results.toList = some [.t 2])
    (h0 : slimC P 8 c0 [] [] = some (.reg false [⟨none, some 2, .mv (.c (.sl .nl []))⟩], [], []))
    (h2 : slimC P 8 c2 [] [] = some (.seq (.reg false [⟨none, some 2, .mv (.c (.sl .nl []))⟩]) .ret, [], []))
    (h3 : slimC P 8 c3 [] [] = some (.seq (.reg false [⟨none, some 5, .be⟩, ⟨none, some 6, .mv (.t 0)⟩, ⟨none, some 7, .app sz bytes (.t 5) (.t 6)⟩, ⟨none, some 2, .mv (.t 7)⟩]) .ret, [], []))
    (e1 : o1.op = .move (.tmp 0) ∧ o1.dst = some 3 ∧ o1.guard = none) (e2 : o2.op = .binOp .eql t (.tmp 3) (.const (.slice none 0 0)) ty ∧ o2.dst = some 4 ∧ o2.guard = none) (hu : P.underlying t = some (.slice te))
    (tok : Tok) (xs : List AV) (hx : xs.all (okE sz) = true ∧ ownL xs = true ∧ bdL 0 xs = true ∧ xs.length * bytes ≤ 140737488355328) (hz : 0 < sz) (r : AV) (tk : List (Nat × Nat))
    (hrt : (xs = [] ∧ r = .sl .sh [] ∧ tk = []) ∨ (xs ≠ [] ∧ r = .sl (.ow 0) xs ∧ tk = [(xs.length, sz)])) : Solo P f [.sl tok xs] r tk := by
  intro w G vs hI hV hbd
  have hS := sound_inf (T0_ok hm)
  have hsz0 : ({ tmps := vs ++ Array.replicate (fn.ntmps - vs.size) undef, defers := [] } : Act).tmps.size = 8 := by
    have := hV.1
    simp [hn] at this ⊢
    omega
  -- the end
  have fin : ∀ (e' : Env) (M' : Mem) (G' : Gh) (a' : Act) (w' : World), a'.defers = [] → Goes w.heap.size 0 G G' → Inv w.heap.size w G' M' w' → VE G' M'.boxes.length e' a' → e' 2 = r ∨ (e' 2 = .sl .nl [] ∧ r = .sl .sh []) → M'.toks = tk → 
      bodyPost P fn (fun e w' => ∃ bs, CallEnds w.heap.size w 0 G r ⟨bs, tk⟩ e w') .ret a' w' := by
    intro e' M' G' a' w' hd hg hi hve hr2 htk
    obtain ⟨v, q1, q2, q3⟩ := results_run (P := P) (tmps := a'.tmps) (d := a'.defers) hi hve hr (l := [e' 2]) rfl
    refine ⟨hd, v, q1, M'.boxes, v, G', rfl, hg, by rw [← htk]; exact hi, ?_, ?_, Nat.zero_le _⟩
    · rcases hr2 with h | ⟨h1, h2⟩
      · rw [← h]; exact q2
      · rw [h2]
        have q2' : V G' (.sl .nl []) v := by rw [← h1]; exact q2
        exact V.er (fun b o v h => h) q2' rfl
    · rcases hr2 with h | ⟨h1, h2⟩
      · rw [← h]; exact q3
      · rw [h2]; rfl
  refine calls_of_wp hf hb (wp_seq ?_)
  refine hS.code 8 c0 [] [] _ [] [] h0 (argEnv 0 [.sl tok xs]) ⟨[], []⟩ .normal (upd (argEnv 0 [.sl tok xs]) 2 (.sl .nl [])) ⟨[], []⟩ (by rw [Dinf_reg]; rfl) w.heap.size w G _ w _ hsz0 hI (VE_args hV hbd) (fun a1 w1 hp => ?_)
  obtain ⟨p1, p2, ⟨G1, g1, i1, ve1⟩, -⟩ := hp
  have p2 : a1.tmps.size = 8 := p2.trans hsz0
  have hv := (ve1 0).1
  obtain ⟨b, cap, sz', blk, off, us, hval, hcap, hsz, ha, -⟩ := V.sl_inv (show V G1 (.sl tok xs) (a1.tmps.getD 0 undef) from hv)
  refine wp_seq (wp_seq (wp_region ?_))
  show wpOps P #[o1, o2] _ [0, 1] a1 w1
  have run1 : (execOp a1.eval o1).run P w1 = .ok (.value (a1.tmps.getD 0 undef)) w1 := by unfold execOp; rw [e1.1]; rfl
  have want1 : Region.wanted o1 (yielded #[o1, o2] a1.tmps) = true := by simp [Region.wanted, e1.2.2]
  simp only [wpOps, List.getElem?_toArray, List.getElem?_cons_zero, List.getElem?_cons_succ, want1, if_true]
  refine Or.inl ?_
  unfold Oper.wp
  rw [run1, Oper.upon_value, e1.2.1]
  have ev3 : (a1.put (some 3) (a1.tmps.getD 0 undef)).eval (.tmp 3) = .slice b xs.length cap := by
    show (a1.put (some 3) (a1.tmps.getD 0 undef)).tmps.getD 3 undef = _
    rw [put_getD _ _ _ (by simp [dstOk, p2]), if_pos rfl, hval]
  have run2 : (execOp (a1.put (some 3) (a1.tmps.getD 0 undef)).eval o2).run P w1 = .ok (.value (.bool b.isNone)) w1 := by
    unfold execOp; rw [e2.1]
    simp only [ev3]
    simp only [show (a1.put (some 3) (a1.tmps.getD 0 undef)).eval (.const (.slice none 0 0)) = .slice none 0 0 from rfl]
    simp [binOp, eqGuard, run_equal_slice_nil w1 t te b xs.length cap hu]
  have want2 : Region.wanted o2 (yielded #[o1, o2] (a1.put (some 3) (a1.tmps.getD 0 undef)).tmps) = true := by simp [Region.wanted, e2.2.2]
  simp only [want2, if_true]
  refine Or.inl ?_
  try unfold Oper.wp
  rw [run2, Oper.upon_value, e2.2.1]
  have ve2 := (ve1.put (d := some 3) (Gh.le.refl _ _) (Nat.le_refl _) (by simp [dstOk, p2]) hv (ve1 0).2).put (d := some 4) (Gh.le.refl _ _) (Nat.le_refl _) (by simp [dstOk, p2, Act.put]) (V.bool b.isNone) rfl
  have ev4 : ((a1.put (some 3) (a1.tmps.getD 0 undef)).put (some 4) (.bool b.isNone)).eval (.tmp 4) = .bool b.isNone := by
    show ((a1.put (some 3) (a1.tmps.getD 0 undef)).put (some 4) (.bool b.isNone)).tmps.getD 4 undef = _
    rw [put_getD _ _ _ (by simp [dstOk, p2, Act.put]), if_pos rfl]
  have sz2 : ((a1.put (some 3) (a1.tmps.getD 0 undef)).put (some 4) (.bool b.isNone)).tmps.size = 8 := by simp [Act.put, p2]
  have df2 : ((a1.put (some 3) (a1.tmps.getD 0 undef)).put (some 4) (.bool b.isNone)).defers = [] := by simpa [Act.put] using p1
  generalize ((a1.put (some 3) (a1.tmps.getD 0 undef)).put (some 4) (.bool b.isNone)) = a2 at ve2 ev4 sz2 df2 ⊢
  cases hb0 : b with
  | none =>
    have hxs : xs = [] := by
      refine Classical.byContradiction fun h => ?_
      have := ha h
      rw [hb0] at this
      cases this
    subst hxs
    rw [hb0] at ev4
    refine wp_cond_true ev4 ?_
    refine hS.code 8 c2 [] [] _ [] [] h2 _ ⟨[], []⟩ .ret _ ⟨[], []⟩ clone_z w.heap.size w G1 a2 w1 _ sz2 i1 ve2 (fun a' w' hp => ?_)
    obtain ⟨q1, q2, ⟨G2, g2, i2, ve3⟩, -⟩ := hp
    refine fin _ ⟨[], []⟩ G2 a' w' (q1.trans df2) (g1.trans g2 (Nat.le_refl _)) i2 ve3 (Or.inr ⟨rfl, ?_⟩) ?_
    · rcases hrt with h | h
      · exact h.2.1
      · exact absurd rfl h.1
    · rcases hrt with h | h
      · exact h.2.2.symm
      · exact absurd rfl h.1
  | some ad =>
    rw [hb0] at ev4
    refine wp_cond_false ev4 (wp_skip ?_)
    rcases hrt with ⟨rfl, rfl, rfl⟩ | ⟨hne, rfl, rfl⟩
    · refine hS.code 8 c3 [] [] _ [] [] h3 _ ⟨[], []⟩ .ret _ ⟨[], []⟩ (clone_d (xs := []) rfl hz hx.1 hx.2.2.2) w.heap.size w G1 a2 w1 _ sz2 i1 ve2 (fun a' w' hp => ?_)
      obtain ⟨q1, q2, ⟨G2, g2, i2, ve3⟩, -⟩ := hp
      exact fin _ ⟨[], []⟩ G2 a' w' (q1.trans df2) (g1.trans g2 (Nat.le_refl _)) i2 ve3 (Or.inr ⟨rfl, rfl⟩) rfl
    · obtain ⟨y, ys, rfl⟩ : ∃ y ys, xs = y :: ys := by
        cases xs with
        | nil => exact absurd rfl hne
        | cons y ys => exact ⟨y, ys, rfl⟩
      refine hS.code 8 c3 [] [] _ [] [] h3 _ ⟨[], []⟩ .ret _ ⟨[], [((y :: ys).length, sz)]⟩ (clone_d (xs := y :: ys) rfl hz hx.1 hx.2.2.2) w.heap.size w G1 a2 w1 _ sz2 i1 ve2 (fun a' w' hp => ?_)
      obtain ⟨q1, q2, ⟨G2, g2, i2, ve3⟩, -⟩ := hp
      exact fin _ ⟨[], [((y :: ys).length, sz)]⟩ G2 a' w' (q1.trans df2) (g1.trans g2 (Nat.le_refl _)) i2 ve3 (Or.inl rfl) rfl
end
end Go.AM

namespace Go.Proofs.Ytnehpfaafgnnpaa
open Go.AM Go.AM.AV Go.RowKit

theorem mixed : Try.prog.follows .mixedOrders = true := by kernel_rfl
theorem tk_eq (xs : List AV) {sz : Nat} : (xs = [] ∧ tk 0 xs = .sl .sh [] ∧ (if xs.isEmpty then [] else [(xs.length, sz)]) = []) ∨ (xs ≠ [] ∧ tk 0 xs = .sl (.ow 0) xs ∧ (if xs.isEmpty then [] else [(xs.length, sz)]) = [(xs.length, sz)]) := by
  cases xs with
  | nil => exact .inl ⟨rfl, rfl, rfl⟩
  | cons y ys => exact .inr ⟨by simp, rfl, rfl⟩
theorem cloneF_inv {sz bytes : Nat} {us : List AV} {r : AV} {ts : List (Nat × Nat)} (h : cloneF sz bytes us = some (r, ts)) :
    ∃ t xs, us = [.sl t xs] ∧ (xs.all (okE sz) = true ∧ ownL xs = true ∧ bdL 0 xs = true ∧ xs.length * bytes ≤ 140737488355328) ∧ ((xs = [] ∧ r = .sl .sh [] ∧ ts = []) ∨ (xs ≠ [] ∧ r = .sl (.ow 0) xs ∧ ts = [(xs.length, sz)])) := by
  unfold cloneF at h
  split at h
  · rename_i t xs
    split at h
    · rename_i hc
      simp only [Option.some.injEq, Prod.mk.injEq] at h
      obtain ⟨rfl, rfl⟩ := h
      exact ⟨t, xs, rfl, hc, tk_eq xs⟩
    · cases h
  · cases h
set_option maxRecDepth 100000 in
theorem solo69 (us : List AV) (r : AV) (ts : List (Nat × Nat)) (h : cloneF 1 8 us = some (r, ts)) : Solo Try.prog 69 us r ts := by
  obtain ⟨t, xs, rfl, h1, h2⟩ := cloneF_inv h
  refine clone_solo (fn := Try.f69) mixed Try.func69 rfl rfl ?_ ?_ ?_ ?_ ⟨rfl, rfl, rfl⟩ ⟨rfl, rfl, rfl⟩ Try.underlying43 t xs h1 (by decide) r ts h2
  · kernel_rfl
  · kernel_rfl
  · kernel_rfl
  · kernel_rfl
set_option maxRecDepth 100000 in
theorem solo89 (us : List AV) (r : AV) (ts : List (Nat × Nat)) (h : cloneF 2 16 us = some (r, ts)) : Solo Try.prog 89 us r ts := by
  obtain ⟨t, xs, rfl, h1, h2⟩ := cloneF_inv h
  refine clone_solo (fn := Try.f89) mixed Try.func89 rfl rfl ?_ ?_ ?_ ?_ ⟨rfl, rfl, rfl⟩ ⟨rfl, rfl, rfl⟩ Try.underlying44 t xs h1 (by decide) r ts h2
  · kernel_rfl
  · kernel_rfl
  · kernel_rfl
  · kernel_rfl
theorem tabOk : TabOk Try.prog T := by
  refine ⟨mixed, fun f s h => ?_, fun f F h => ?_⟩
  · exact tbl_ok (f, s) (tabOf_mem h)
  · have hm := tabOf_mem h
    simp only [exts, List.mem_cons, List.not_mem_nil, or_false] at hm
    rcases hm with hm | hm
    · cases hm
      exact ⟨⟨_, Try.func69, by kernel_rfl, by kernel_rfl⟩, solo69⟩
    · cases hm
      exact ⟨⟨_, Try.func89, by kernel_rfl, by kernel_rfl⟩, solo89⟩
end Go.Proofs.Ytnehpfaafgnnpaa

namespace Go.Proofs.Ytnehpfaafgnnpaa
open Go.ChangeShapes Go.WideShapes Go.ChangeAt Go.RowKit
open Go.AM Go.AM.AV

theorem Try.own : ownKnob Try.prog.godebug = none := by kernel_rfl
theorem Try.laidOut : laidOutB Try.prog = true := by kernel_rfl

theorem Vs_two {G : Gh} {a b : AV} {x y : Value} (h1 : V G a x) (h2 : V G b y) : Vs G [a, b] #[x, y] := by
  refine ⟨rfl, fun j c hc => ?_⟩
  match j with
  | 0 => cases hc; exact h1
  | 1 => cases hc; exact h2
  | j + 2 => cases hc

theorem walk3 (W : World) (arr : Array Value) (id : Int) (l : List Nd) (hl : l.length ≤ 9223372036854775807) (hs : ∀ n ∈ l, bgN n) (hV : V (lentG W) (scE l) (.agg arr)) :
    Calls Try.prog 3 #[.agg arr, .int .i64 id] W fun e W' => e = .returned (.bool true) ∧ Below W.heap.size W W' := by
  have h := Cl_sound tabOk true 3 [scE l, i64 id] ⟨[], []⟩ (.bool true) ⟨[], []⟩ (law3 l id hl hs true ⟨[], []⟩ (scE l) (snap_sc _ .sh l)) W.heap.size W (lentG W) W #[.agg arr, .int .i64 id] lent_inv (Vs_two hV (.int _ _)) (by have h := datL_bdL (n := 0) _ (datL_nds l); simp only [List.length_nil, bdL, bd, scE, i64, h, Bool.and_self])
  refine h.2.mono fun e W' ⟨v, G', he, _, hi, hv, _, _⟩ => ?_
  cases hv
  exact ⟨he, hi.below⟩

set_option maxRecDepth 100000 in
theorem fnExactDropNode_lifted (os : Os) (started : os.Started) (H : Type) (enc : TypeId × Value → H) :
    ReturnsInHanded {} Try.checked os 3 .any (Rows.fnExactDropNodeSpec.pre6 enc Try.prog Try.f3 Rows.fnExactDropNodeRow.domain false) (Rows.fnExactDropNodeSpec.post enc Try.prog Try.f3 false true false false) := by
  refine returnsInHanded_of_change (C := Try.checked) Try.own started (by kernel_rfl) Try.func3
    (ChangeSpec.witness6 (enc := enc) (C := Try.checked) false ⟨#[], #[.agg #[.slice none 0 0], .int .i64 0], []⟩ 8 (by kernel_rfl) (by kernel_rfl) (by kernel_rfl) (by kernel_rfl)) ?_
  intro W base args ds gs before hval0 hW hcnd _
  have hval : ∀ (j : Nat) t v, Try.f3.params[j]? = some t → args[j]? = some v → Value.okWide Try.prog W .any base t v := hval0
  have hW' := hW
  obtain ⟨p, q, hA0, hV, rfl, hfz, hnd⟩ := hW
  have hA : DataW.TrodAll enc Try.prog W 0 (fun _ => true) true Try.f3.params.toList args.toList ds p := hA0
  rw [Try.params3] at hA hval
  obtain ⟨v0, v1, d0, d1, p0, p1, rfl, rfl, rfl, h0, h1⟩ := trodAll_two hA
  obtain ⟨rfl, rfl⟩ := trodVars_none hV
  obtain ⟨arr, rfl, -⟩ := okWide_struct Try.underlying24 (hval 0 24 v0 rfl rfl)
  obtain ⟨id, rfl, rfl, rfl, wid⟩ := open_int Try.underlying3 (hval 1 3 v1 rfl rfl) h1
  obtain ⟨l, hVl, hl, hs⟩ := read_sc h0
  clear hA0 hval0
  simp only [List.append_nil] at hW'
  have hlt : ∀ x ∈ p0, x.block < W.heap.size := fun x hx => hW'.lt x hx
  refine (walk3 W arr id l hl hs hVl).mono fun e W' ⟨he, bel⟩ => ?_
  subst he
  exact ⟨_, rfl, _, _, _, [], _, [], hW', trodAll_mk1 (shut_bool Try.underlying4 _), trodAll_mk2 (Below.trod Try.laidOut (by kernel_rfl) (of_decide_eq_true (by kernel_rfl)) h0 bel hlt) (shut_int Try.underlying3 wid), rfl, bel.frame _, fun h => by cases h⟩

theorem fnExactDropNode_holds : Rows.FnExactDropNodeSaid :=
  OpenClaim.holds_of_wide 3 Try.f3 rfl rfl rfl rfl rfl rfl rfl ⟨rfl, rfl, rfl, rfl, rfl⟩ rfl rfl rfl rfl rfl (by kernel_rfl) Try.func3 (by kernel_rfl)
    (of_decide_eq_true (by kernel_rfl)) (by unfold Func.isWrapper; first | (rw [if_pos (by decide +kernel)]; kernel_rfl) | (rw [if_neg (by decide +kernel)]; exact ⟨rfl, rfl⟩))
    (fun os started H enc _ => fnExactDropNode_lifted os started H enc)

#print axioms fnExactDropNode_holds
end Go.Proofs.Ytnehpfaafgnnpaa
