/- Whole functions: the reading of code, and that the tree machine's answer is the model's. The tree machine with fuel is sound; and it without fuel. The machine without fuel: its equations. Running code of the machine step by step. -/
import Derived.Test.YtnehpfaafgnnpaaMF
set_option linter.unusedSimpArgs false
set_option linter.unusedVariables false
set_option linter.unnecessarySimpa false
namespace Go.AM
open AV Go.RowKit

def slimC (P : Program) (nt : Nat) : Code → List (List Nat) → List (List (List Nat)) → Option (SC × List (List Nat) × List (List (List Nat)))
  | .skip, ks, cs => some (.skip, ks, cs)
  | .ret, ks, cs => some (.ret, ks, cs)
  | .exit n, ks, cs => some (.exit n, ks, cs)
  | .region _ ops dr, ks, cs => match slimL P nt ops ops.toList with
    | some sis => match dr, cs with
      | false, cs => some (.reg false sis, ks, cs)
      | true, c :: cs => if drawOk ops sis c = true then some (.reg true sis, ks, cs) else none
      | true, [] => none
    | none => none
  | .seq a b, ks, cs => match slimC P nt a ks cs with
    | some (sa, ks, cs) => match slimC P nt b ks cs with
      | some (sb, ks, cs) => some (.seq sa sb, ks, cs)
      | none => none
    | none => none
  | .cond x a b, ks, cs => match slimX x, slimC P nt a ks cs with
    | some sx, some (sa, ks, cs) => match slimC P nt b ks cs with
      | some (sb, ks, cs) => some (.cond sx sa sb, ks, cs)
      | none => none
    | _, _ => none
  | .block n a, ks, cs => match slimC P nt a ks cs with
    | some (sa, ks, cs) => some (.block n sa, ks, cs)
    | none => none
  | .loop a, k :: ks, cs => match slimC P nt a ks cs with
    | some (sa, ks, cs) => some (.loop k sa, ks, cs)
    | none => none
  | _, _, _ => none

def slimRes (P : Program) : ResultVar → Option SRes
  | .tmp t => some (.t t)
  | .cell a t => match aggType P t, sizeT P t with
    | some true, some n => some (.c a true n)
    | some false, _ => some (.c a false 1)
    | _, _ => none
def slimRs (P : Program) : List ResultVar → Option (List SRes)
  | [] => some []
  | r :: l => match slimRes P r, slimRs P l with
    | some a, some b => some (a :: b)
    | _, _ => none

/-- The table tells the program's functions as they are. -/
structure FnOk (P : Program) (f : FuncId) (s : SFun) : Prop where
  ex : ∃ fn c, P.funcs[f]? = some fn ∧ (fn.name == "runtime.NumGoroutine") = false ∧ fn.body = some c ∧ fn.ntmps = s.nt ∧ slimRs P fn.results.toList = some s.res ∧
    ∃ ks cs, slimC P s.nt c ks cs = some (s.body, [], [])
structure TabOk (P : Program) (T : Tab) : Prop where
  mixed : P.follows .mixedOrders = true
  fn : ∀ f s, T.fn f = some s → FnOk P f s
  ext : ∀ f F, T.ext f = some F → Enters P f ∧ ∀ as r ts, F as = some (r, ts) → Solo P f as r ts

/-- A function, read whole. -/
def slimF (P : Program) (f : FuncId) (ks : List (List Nat)) (cs : List (List (List Nat))) : Option (Nat × List SRes × SC) :=
  match P.funcs[f]? with
  | some fu => if fu.name == "runtime.NumGoroutine" then none else match fu.body, slimRs P fu.results.toList with
    | some c, some rs => match slimC P fu.ntmps c ks cs with
      | some (s, [], []) => some (fu.ntmps, rs, s)
      | _ => none
    | _, _ => none
  | none => none
theorem FnOk.of {P : Program} {f : FuncId} {s : SFun} {ks : List (List Nat)} {cs : List (List (List Nat))} (h : slimF P f ks cs = some (s.nt, s.res, s.body)) : FnOk P f s := by
  unfold slimF at h
  split at h
  · rename_i fu hfn
    split at h
    · cases h
    · rename_i hn
      split at h
      · rename_i c rs hc hr
        split at h
        · rename_i s' hs
          simp only [Option.some.injEq, Prod.mk.injEq] at h
          obtain ⟨h1, h2, h3⟩ := h
          refine ⟨fu, c, hfn, by simpa using hn, hc, h1, by rw [hr, h2], ks, cs, ?_⟩
          rw [← h1, hs, h3]
        · cases h
      · cases h
  · cases h
def tabOf {α : Type} (l : List (FuncId × α)) (f : FuncId) : Option α := l.lookup f
theorem tabOf_mem {α : Type} {f : FuncId} {s : α} : ∀ {l : List (FuncId × α)}, tabOf l f = some s → (f, s) ∈ l
  | [], h => by cases h
  | (g, r) :: l, h => by
    unfold tabOf at h
    rw [List.lookup_cons] at h
    split at h
    · rename_i hg
      simp only [beq_iff_eq] at hg
      obtain rfl := Option.some.inj h
      rw [hg]; exact List.mem_cons_self ..
    · exact List.mem_cons_of_mem _ (tabOf_mem h)

section
variable {P : Program} {B : Nat} {w0 : World} {G : Gh} {M : Mem} {w : World} {a : Act} {e : Env}

theorem Post.trans {n : Nat} {G1 : Gh} {a1 : Act} {e' : Env} {M1 M' : Mem} {a' : Act} {w' : World} (hg : Goes B n G G1) (hd : a1.defers = a.defers) (hs : a1.tmps.size = a.tmps.size) (hn : n ≤ M1.boxes.length)
    (h2 : Post B w0 M1.boxes.length G1 a1 e' M' a' w') : Post B w0 n G a e' M' a' w' := by
  obtain ⟨p1, p2, ⟨G2, p3, p4, p5⟩, p6⟩ := h2
  exact ⟨p1.trans hd, p2.trans hs, ⟨G2, hg.trans p3 hn, p4, p5⟩, by omega⟩

theorem VE.pick {n : Nat} (h : VE G n e a) : ∀ ks : List Nat, VE G n (pick ks e) a
  | [] => fun t => ⟨.any _, rfl⟩
  | k :: ks => fun t => by
    simp only [AM.pick]
    by_cases ht : t = k
    · subst ht; rw [upd_same]; exact h t
    · rw [upd_ne _ _ _ _ ht]; exact VE.pick h ks t

theorem argEnv_get : ∀ (l : List AV) (k t : Nat), argEnv k l t = if k ≤ t then l.getD (t - k) .any else .any
  | [], k, t => by simp [argEnv, bot]
  | x :: r, k, t => by
    simp only [argEnv]
    by_cases h : t = k
    · subst h; simp [upd_same]
    · rw [upd_ne _ _ _ _ h, argEnv_get r (k + 1) t]
      by_cases h2 : k ≤ t
      · rw [if_pos h2, if_pos (by omega), show t - k = (t - (k + 1)) + 1 by omega]; rfl
      · rw [if_neg h2, if_neg (by omega)]

theorem VE_args {n nt : Nat} {avs : List AV} {vs : Array Value} (hV : Vs G avs vs) (hb : bdL n avs = true) :
    VE G n (argEnv 0 avs) { tmps := vs ++ Array.replicate (nt - vs.size) undef, defers := [] } := by
  intro t
  rw [argEnv_get]
  simp only [Nat.zero_le, if_true, Nat.sub_zero, List.getD_eq_getElem?_getD]
  cases h : avs[t]? with
  | none => exact ⟨.any _, rfl⟩
  | some x =>
    have ht : t < vs.size := by rw [hV.1]; exact getElem?_lt h
    refine ⟨?_, bdL_mem hb x (getElem?_mem' h)⟩
    have := hV.2 t x h
    simp only [Option.getD_some]
    rw [getD_append, if_pos ht]
    exact this

theorem Inv.drew (h : Inv B w0 G M w) : Inv B w0 G M { w with drawn := w.drawn + 1 } := h.of_below (w' := w.drew) (Below.refl _ _).drew

/-! ### Results -/
theorem resA_run {tmps : Array Value} {d : List Deferred} (hI : Inv B w0 G M w) (hE : VE G M.boxes.length e ⟨tmps, d⟩) {r : ResultVar} {s : SRes} (hs : slimRes P r = some s) {v : AV} (hv : resA e M s = some v)
    (f : ResultVar → Sem Value) (hf : ∀ u, f (.tmp u) = pure (tmps.getD u undef)) (hc : ∀ a t, f (.cell a t) = (do loadVar t (← asAddr (tmps.getD a undef)))) :
    ∃ x, (f r).run P w = .ok x w ∧ V G v x ∧ bd M.boxes.length v = true := by
  cases r with
  | tmp t =>
    simp only [slimRes, Option.some.injEq] at hs
    subst hs
    simp only [resA, Option.some.injEq] at hv
    subst hv
    exact ⟨_, by rw [hf]; simp, (hE t).1, (hE t).2⟩
  | cell p t =>
    rw [hc]
    have key : ∀ (ag : Bool) (n : Nat), aggType P t = some ag → ((ag = true ∧ sizeT P t = some n) ∨ (ag = false ∧ n = 1)) → resA e M (.c p ag n) = some v →
        ∃ x, ((do loadVar t (← asAddr (tmps.getD p undef))) : Sem Value).run P w = .ok x w ∧ V G v x ∧ bd M.boxes.length v = true := by
      intro ag n hag hn hv
      simp only [resA] at hv
      split at hv
      · rename_i b o hp
        split at hv
        · rename_i cs hb
          obtain ⟨vs, h1, h2, h3⟩ := hI.box_fun hb
          obtain ⟨y, q1, q2, q3⟩ := load_known (P := P) (w := w) hag hn (blk := G.ρ b) (off := 0) (fun j hj => by simpa using (h1 j hj).1) h2 hv
          have hlt := getElem?_lt hb
          have hpv := (hE p).1
          rw [hp] at hpv
          have hpv := hpv.ptr_inv
          simp only at hpv
          refine ⟨y, ?_, q2, q3 _ (bdL_le (by omega) _ h3)⟩
          rw [hpv]
          simp only [Nat.zero_add, Instr.loadAt, Instr.sureAddr] at q1
          simpa [asAddr] using q1
        · cases hv
      · cases hv
    simp only [slimRes] at hs
    split at hs
    · rename_i n h1 h2
      obtain rfl := Option.some.inj hs
      exact key true n h1 (.inl ⟨rfl, h2⟩) hv
    · rename_i h1
      obtain rfl := Option.some.inj hs
      exact key false 1 h1 (.inr ⟨rfl, rfl⟩) hv
    · cases hs

theorem resL_run {tmps : Array Value} {d : List Deferred} (hI : Inv B w0 G M w) (hE : VE G M.boxes.length e ⟨tmps, d⟩) (f : ResultVar → Sem Value) (hf : ∀ u, f (.tmp u) = pure (tmps.getD u undef)) (hc : ∀ a t, f (.cell a t) = (do loadVar t (← asAddr (tmps.getD a undef)))) :
    ∀ {rs : List ResultVar} {ss : List SRes}, slimRs P rs = some ss → ∀ {l : List AV}, resL e M ss = some l →
    ∃ xs : List Value, (rs.mapM f).run P w = .ok xs w ∧ xs.length = l.length ∧ (∀ (j : Nat) (v : AV), l[j]? = some v → V G v (xs.getD j undef)) ∧ bdL M.boxes.length l = true
  | [], ss, hs, l, hl => by
    simp only [slimRs, Option.some.injEq] at hs
    subst hs
    simp only [resL, Option.some.injEq] at hl
    subst hl
    exact ⟨[], by simp, rfl, fun j v h => by simp at h, rfl⟩
  | r :: rs, ss, hs, l, hl => by
    simp only [slimRs] at hs
    split at hs
    · rename_i s ss' h1 h2
      obtain rfl := Option.some.inj hs
      simp only [resL] at hl
      split at hl
      · rename_i v vs q1 q2
        obtain rfl := Option.some.inj hl
        obtain ⟨x, p1, p2, p3⟩ := resA_run hI hE h1 q1 f hf hc
        obtain ⟨xs, r1, r2, r3, r4⟩ := resL_run hI hE f hf hc h2 q2
        refine ⟨x :: xs, by simp [List.mapM_cons, p1, r1], by simp [r2], fun j u hj => ?_, by simp [bdL, p3, r4]⟩
        cases j with
        | zero => simp at hj; subst hj; simpa using p2
        | succ j => simp at hj; simpa using r3 j u hj
      · cases hl
    · cases hs

theorem results_run {tmps : Array Value} {d : List Deferred} (hI : Inv B w0 G M w) (hE : VE G M.boxes.length e ⟨tmps, d⟩) {fn : Func} {ss : List SRes} (hs : slimRs P fn.results.toList = some ss) {l : List AV} (hl : resL e M ss = some l) :
    ∃ x, (results fn tmps).run P w = .ok x w ∧ V G (oneOrTup l) x ∧ bd M.boxes.length (oneOrTup l) = true := by
  have hrs : fn.results = fn.results.toList.toArray := by simp
  obtain ⟨xs, h1, h2, h3, h4⟩ := resL_run (P := P) hI hE (fun r => match r with
    | .tmp t => pure (tmps.getD t undef)
    | .cell a t => do loadVar t (← asAddr (tmps.getD a undef))) (fun _ => rfl) (fun _ _ => rfl) hs hl
  have hrun : (results fn tmps).run P w = .ok (if h : xs.toArray.size = 1 then xs.toArray[0] else .tuple xs.toArray) w := by
    unfold results
    rw [hrs, List.mapM_toArray]
    simp only [Sem.run_bind, Sem.run_map]
    erw [h1]
    rfl
  refine ⟨_, hrun, ?_, ?_⟩
  · match l, xs, h2, h3 with
    | [], [], _, _ => exact .tup _ _ rfl fun j c h => by simp at h
    | [v], [x], _, h3 => simpa [oneOrTup] using h3 0 v rfl
    | v :: v' :: r, x :: x' :: r', h2, h3 =>
      simp only [List.size_toArray, List.length_cons, Nat.add_eq_right, Nat.add_eq_zero_iff, Nat.one_ne_zero, and_false, dite_false]
      exact .tup _ _ (by simpa using h2) fun j c h => by simpa using h3 j c h
  · match l, h4 with
    | [], _ => rfl
    | [v], h4 => simpa [oneOrTup, bdL] using h4
    | v :: v' :: r, h4 => simpa only [oneOrTup, bd] using h4
end

/-! ### Loops -/
def LoopIn (P : Program) (c : Code) (Q : Exit → Act → World → Prop) (a : Act) (w : World) : Prop :=
  ∀ (b : Frame) (k : List Item) (cs : List Frame), ∃ e a' w', Q e a' w' ∧ Arrives P (lone (b.at a (.code c :: .inLoop c :: k)) cs w) b k cs e a' w'

section
variable {P : Program} {Q : Exit → Act → World → Prop} {a : Act} {w : World}
theorem loopIn_step {c : Code} (h : c.wp P (Exit.then (LoopIn P c Q) Q) a w) : LoopIn P c Q a w := by
  intro b k cs
  obtain ⟨e, a₁, w₁, hq, harr⟩ := h b (.inLoop c :: k) cs
  cases e with
  | normal =>
    obtain ⟨e₂, a₂, w₂, hq₂, harr₂⟩ := hq b k cs
    exact ⟨e₂, a₂, w₂, hq₂, .of_steps (Steps.trans harr (.one step_inLoop)) harr₂⟩
  | exit id => exact ⟨_, a₁, w₁, hq, .pass (x := .inLoop c) rfl (fun _ _ => .inl (by simp)) harr⟩
  | goto l => exact ⟨_, a₁, w₁, hq, .pass (x := .inLoop c) rfl (fun _ _ => .inl (by simp)) harr⟩
  | ret => exact ⟨_, a₁, w₁, hq, .pass (x := .inLoop c) rfl (fun _ _ => .inl (by simp)) harr⟩
  | panic ch => exact ⟨_, a₁, w₁, hq, .pass (x := .inLoop c) rfl (fun _ _ => .inl (by simp)) harr⟩
  | outgrown => exact ⟨_, a₁, w₁, hq, .pass (x := .inLoop c) rfl (fun _ _ => .inl (by simp)) harr⟩
theorem wp_loop_in {c : Code} (h : LoopIn P c Q a w) : (Code.loop c).wp P Q a w := by
  intro b k cs
  obtain ⟨e, a', w', hq, harr⟩ := h b k cs
  exact ⟨e, a', w', hq, .of_steps (.one step_loop) harr⟩
end

def Ex.out : Ex → Exit
  | .normal => .normal
  | .exit n => .exit n
  | .ret => .ret

/-- What is to be shown of the machine with so much fuel. -/
structure Sound (P : Program) (Dn : SC → Env → Mem → Option (Ex × Env × Mem)) : Prop where
  code : ∀ (nt : Nat) (c : Code) (ks : List (List Nat)) (cs : List (List (List Nat))) (s : SC) (ks' : List (List Nat)) (cs' : List (List (List Nat))), slimC P nt c ks cs = some (s, ks', cs') →
    ∀ (e : Env) (M : Mem) (x : Ex) (e' : Env) (M' : Mem), Dn s e M = some (x, e', M') → ∀ (B : Nat) (w0 : World) (G : Gh) (a : Act) (w : World) (Q : Exit → Act → World → Prop), a.tmps.size = nt → Inv B w0 G M w → VE G M.boxes.length e a →
    (∀ a' w', Post B w0 M.boxes.length G a e' M' a' w' → Q x.out a' w') → c.wp P Q a w
  loop : ∀ (nt : Nat) (c : Code) (ks : List (List Nat)) (cs : List (List (List Nat))) (s : SC) (ks' : List (List Nat)) (cs' : List (List (List Nat))) (k : List Nat), slimC P nt c ks cs = some (s, ks', cs') →
    ∀ (e : Env) (M : Mem) (x : Ex) (e' : Env) (M' : Mem), Dn (.loop k s) e M = some (x, e', M') → ∀ (B : Nat) (w0 : World) (G : Gh) (a : Act) (w : World) (Q : Exit → Act → World → Prop), a.tmps.size = nt → Inv B w0 G M w → VE G M.boxes.length e a →
    (∀ a' w', Post B w0 M.boxes.length G a e' M' a' w' → Q x.out a' w') → LoopIn P c Q a w

section
variable {P : Program} {B : Nat} {w0 : World} {G : Gh} {M : Mem} {w : World} {T : Tab} {Dn : SC → Env → Mem → Option (Ex × Env × Mem)}

theorem FnOk.enters {f : FuncId} {s : SFun} (h : FnOk P f s) : Enters P f := by
  obtain ⟨fn, c, h1, h2, h3, -⟩ := h.ex
  exact ⟨fn, h1, h2, by simp [h3]⟩

theorem runF_sound (hS : Sound P Dn) {f : FuncId} {s : SFun} (hf : FnOk P f s) {avs : List AV} {r : AV} {M' : Mem} (hr : runF Dn s avs M = some (r, M')) (hI : Inv B w0 G M w) {vs : Array Value} (hV : Vs G avs vs) (hb : bdL M.boxes.length avs = true) :
    Calls P f vs w (CallEnds B w0 M.boxes.length G r M') := by
  obtain ⟨fn, c, h1, h2, h3, h4, h5, ks, cs, h6⟩ := hf.ex
  unfold runF at hr
  split at hr
  rotate_left
  · cases hr
  rename_i hn
  have hsz : (vs ++ Array.replicate (fn.ntmps - vs.size) undef).size = s.nt := by simp [h4, hV.1]; omega
  have fin : ∀ (x : Ex) (e : Env) (M1 : Mem), Dn s.body (argEnv 0 avs) M = some (x, e, M1) → (x = .normal ∨ x = .ret) → ((resL e M1 s.res).map fun l => (oneOrTup l, M1)) = some (r, M') → Calls P f vs w (CallEnds B w0 M.boxes.length G r M') := by
    intro x e M1 hD hx hl
    simp only [Option.map_eq_some_iff, Prod.mk.injEq] at hl
    obtain ⟨l, hl, rfl, rfl⟩ := hl
    refine calls_of_wp h1 h3 (hS.code s.nt c ks cs s.body [] [] h6 _ M x e M1 hD B w0 G _ w _ hsz hI (VE_args hV hb) fun a' w' hp => ?_)
    obtain ⟨p1, p2, ⟨G', p3, p4, p5⟩, p6⟩ := hp
    obtain ⟨v, q1, q2, q3⟩ := results_run (P := P) (tmps := a'.tmps) (d := a'.defers) p4 p5 h5 hl
    have : a'.defers = [] ∧ ∃ v, (results fn a'.tmps).run P w' = .ok v w' ∧ CallEnds B w0 M.boxes.length G (oneOrTup l) M1 (.returned v) w' := ⟨p1, v, q1, v, G', rfl, p3, p4, q2, q3, p6⟩
    rcases hx with rfl | rfl <;> exact this
  split at hr
  · rename_i e M1 hD; exact fin .normal e M1 hD (.inl rfl) hr
  · rename_i e M1 hD; exact fin .ret e M1 hD (.inr rfl) hr
  · cases hr

theorem runOwn_solo (hS : Sound P Dn) {f : FuncId} {s : SFun} (hf : FnOk P f s) {as : List AV} {r : AV} {ts : List (Nat × Nat)} (hr : runOwn Dn s as = some (r, ts)) : Solo P f as r ts ∧ own r = true := by
  unfold runOwn at hr
  split at hr
  · rename_i r0 M1 h0
    exact solo_seal hr fun w G vs hI hV hb => runF_sound hS hf h0 hI hV hb
  · cases hr

theorem Inv.fewer (h : Inv B w0 G M w) (n : Nat) (hn : n ≤ M.boxes.length) (ha : (M.boxes.take n).all (bdL n) = true) : Inv B w0 G ⟨M.boxes.take n, M.toks⟩ w := by
  have hlt : ∀ {i : Nat}, i < (M.boxes.take n).length → i < M.boxes.length := fun h => by simp at h; omega
  refine ⟨h.below, h.hB, h.σβ, h.stab, fun i cs hi => ?_, fun i hi => h.boxB i (hlt hi), fun i j hi hj => h.boxinj i j (hlt hi) (hlt hj), h.tok, fun t m blk cap sz ht => ?_, h.tokinj⟩
  · rw [List.getElem?_take] at hi
    split at hi
    · rename_i hin
      refine ⟨?_, (h.box i cs hi).2⟩
      rw [show (Mem.boxes ⟨M.boxes.take n, M.toks⟩).length = n by show (M.boxes.take n).length = n; rw [List.length_take]; omega]
      exact List.all_eq_true.1 ha cs (List.mem_of_getElem? (i := i) (by rw [List.getElem?_take, if_pos hin]; exact hi))
    · cases hi
  · obtain ⟨h1, h2, h3, h4, h5⟩ := h.tokv t m blk cap sz ht
    exact ⟨h1, h2, h3, fun i hi => h4 i (hlt hi), h5⟩

theorem clFull_sound (hS : Sound P Dn) {f : FuncId} {s : SFun} (hf : FnOk P f s) {avs : List AV} {r : AV} {M' : Mem} (h : clFull Dn s avs M = some (r, M')) (hI : Inv B w0 G M w) {vs : Array Value} (hV : Vs G avs vs) (hb : bdL M.boxes.length avs = true) :
    Calls P f vs w (CallEnds B w0 M.boxes.length G r M') := by
  unfold clFull at h
  split at h
  · rename_i r' M1 hr
    have h0 := runF_sound hS hf hr hI hV hb
    split at h
    · rename_i hrb
      simp only [Option.some.injEq, Prod.mk.injEq] at h
      obtain ⟨rfl, rfl⟩ := h
      refine h0.mono ?_
      rintro e w' ⟨v, G', rfl, g1, g2, g3, g4, g5⟩
      have hl : (M1.boxes.take M.boxes.length).length = M.boxes.length := by simp; omega
      exact ⟨v, G', rfl, g1, g2.fewer _ g5 hrb.2, g3, by rw [hl]; exact hrb.1, by rw [hl]; exact Nat.le_refl _⟩
    · simp only [Option.some.injEq, Prod.mk.injEq] at h
      obtain ⟨rfl, rfl⟩ := h
      exact h0
  · cases h

theorem clD_sound (hT : TabOk P T) (hS : Sound P Dn) (fl : Bool) : ClOk P (clD Dn T fl) := by
  intro f avs M r M' hcl B w0 G w vs hI hV hb
  unfold clD at hcl
  split at hcl
  · rename_i F hF
    obtain ⟨h1, h2⟩ := hT.ext f F hF
    refine ⟨h1, ?_⟩
    split at hcl
    · rename_i as has
      split at hcl
      · rename_i r' ts hr
        split at hcl
        · rename_i hd
          simp only [Option.some.injEq, Prod.mk.injEq] at hcl
          obtain ⟨rfl, rfl⟩ := hcl
          exact solo_own (h2 as r' ts hr) hd hI has hV
        · cases hcl
      · cases hcl
    · cases hcl
  · split at hcl
    · rename_i s hs
      have hf := hT.fn f s hs
      refine ⟨hf.enters, ?_⟩
      have full : (if fl = true then clFull Dn s avs M else none) = some (r, M') → Calls P f vs w (CallEnds B w0 M.boxes.length G r M') := fun h => by
        split at h
        · exact clFull_sound hS hf h hI hV hb
        · cases h
      split at hcl
      · rename_i as _ has
        split at hcl
        · rename_i r' ts hr
          simp only [Option.some.injEq, Prod.mk.injEq] at hcl
          obtain ⟨rfl, rfl⟩ := hcl
          obtain ⟨h1, h2⟩ := runOwn_solo hS hf hr
          exact solo_pure h1 h2 hI has hV
        · cases hcl
      · rename_i as _ has
        split at hcl
        · rename_i r' ts hr
          simp only [Option.some.injEq, Prod.mk.injEq] at hcl
          obtain ⟨rfl, rfl⟩ := hcl
          obtain ⟨h1, h2⟩ := runOwn_solo hS hf hr
          exact solo_own h1 h2 hI has hV
        · cases hcl
      · rename_i as _ has
        split at hcl
        · rename_i r' ts hr
          split at hcl
          · rename_i r2 bs hb2
            simp only [Option.some.injEq, Prod.mk.injEq] at hcl
            obtain ⟨rfl, rfl⟩ := hcl
            obtain ⟨h1, h2⟩ := runOwn_solo hS hf hr
            exact solo_box h1 hb2 hI has hV
          · cases hcl
        · cases hcl
      · exact full hcl
      · exact full hcl
      · cases hcl
    · cases hcl

theorem clD_box : ClBox (clD Dn T false) := by
  intro f as M r M' h b cs hb
  unfold clD at h
  repeat' split at h
  all_goals first
    | (simp only [Option.some.injEq, Prod.mk.injEq] at h; obtain ⟨-, rfl⟩ := h; first | exact hb | (show (M.boxes ++ _)[b]? = _; rw [List.getElem?_append_left (getElem?_lt hb)]; exact hb))
    | (exact absurd ‹false = true› (by decide))
    | cases h
end
end Go.AM

namespace Go.AM
open AV Go.RowKit

section
variable {P : Program} {T : Tab}

theorem Sound.none : Sound P (fun _ _ _ => Option.none) := ⟨fun _ _ _ _ _ _ _ _ _ _ _ _ _ h => (by cases h), fun _ _ _ _ _ _ _ _ _ _ _ _ _ _ h => (by cases h)⟩

theorem Sound.step (hT : TabOk P T) {n : Nat} (hS : Sound P (D T n)) : Sound P (D T (n + 1)) := by
  have loop : ∀ (nt : Nat) (c : Code) (ks : List (List Nat)) (cs : List (List (List Nat))) (s : SC) (ks' : List (List Nat)) (cs' : List (List (List Nat))) (k : List Nat), slimC P nt c ks cs = some (s, ks', cs') →
    ∀ (e : Env) (M : Mem) (x : Ex) (e' : Env) (M' : Mem), D T (n + 1) (.loop k s) e M = some (x, e', M') → ∀ (B : Nat) (w0 : World) (G : Gh) (a : Act) (w : World) (Q : Exit → Act → World → Prop), a.tmps.size = nt → Inv B w0 G M w → VE G M.boxes.length e a →
    (∀ a' w', Post B w0 M.boxes.length G a e' M' a' w' → Q x.out a' w') → LoopIn P c Q a w := by
    intro nt c ks cs s ks' cs' k hc e M x e' M' hD B w0 G a w Q hnt hI hE hQ
    refine loopIn_step ?_
    simp only [D] at hD
    split at hD
    · rename_i e1 M1 h1
      refine hS.code nt c ks cs s ks' cs' hc _ M .normal e1 M1 h1 B w0 G a w _ hnt hI (hE.pick k) fun a1 w1 hp => ?_
      obtain ⟨p1, p2, ⟨G1, p3, p4, p5⟩, p6⟩ := hp
      exact hS.loop nt c ks cs s ks' cs' k hc e1 M1 x e' M' hD B w0 G1 a1 w1 Q (by omega) p4 p5 fun a' w' h => hQ a' w' (h.trans p3 p1 p2 p6)
    · rename_i y e1 M1 hne h1
      simp only [Option.some.injEq, Prod.mk.injEq] at hD
      obtain ⟨rfl, rfl, rfl⟩ := hD
      refine hS.code nt c ks cs s ks' cs' hc _ M y e1 M1 h1 B w0 G a w _ hnt hI (hE.pick k) fun a1 w1 hp => ?_
      obtain ⟨p1, p2, ⟨G1, p3, p4, p5⟩, p6⟩ := hp
      have h := hQ a1 w1 ⟨p1, p2, ⟨G1, p3, p4, p5.pick k⟩, p6⟩
      cases y with
      | normal => exact (hne rfl).elim
      | exit j => exact h
      | ret => exact h
    · cases hD
  refine ⟨?_, loop⟩
  intro nt c ks cs s ks' cs' hc e M x e' M' hD B w0 G a w Q hnt hI hE hQ
  cases c with
  | skip =>
    simp only [slimC, Option.some.injEq, Prod.mk.injEq] at hc
    obtain ⟨rfl, -, -⟩ := hc
    simp only [D, Option.some.injEq, Prod.mk.injEq] at hD
    obtain ⟨rfl, rfl, rfl⟩ := hD
    exact wp_skip (hQ a w ⟨rfl, rfl, ⟨G, Goes.refl .., hI, hE⟩, Nat.le_refl _⟩)
  | ret =>
    simp only [slimC, Option.some.injEq, Prod.mk.injEq] at hc
    obtain ⟨rfl, -, -⟩ := hc
    simp only [D, Option.some.injEq, Prod.mk.injEq] at hD
    obtain ⟨rfl, rfl, rfl⟩ := hD
    exact wp_ret (hQ a w ⟨rfl, rfl, ⟨G, Goes.refl .., hI, hE⟩, Nat.le_refl _⟩)
  | exit j =>
    simp only [slimC, Option.some.injEq, Prod.mk.injEq] at hc
    obtain ⟨rfl, -, -⟩ := hc
    simp only [D, Option.some.injEq, Prod.mk.injEq] at hD
    obtain ⟨rfl, rfl, rfl⟩ := hD
    exact wp_exit (hQ a w ⟨rfl, rfl, ⟨G, Goes.refl .., hI, hE⟩, Nat.le_refl _⟩)
  | region id ops dr =>
    simp only [slimC] at hc
    split at hc
    · rename_i sis hsis
      split at hc
      · simp only [Option.some.injEq, Prod.mk.injEq] at hc
        obtain ⟨rfl, -, -⟩ := hc
        simp only [D, Option.map_eq_some_iff, Prod.mk.injEq] at hD
        obtain ⟨r, hr, rfl, rfl, rfl⟩ := hD
        refine wp_region ?_
        rw [List.range_eq_range', ← Array.length_toList]
        exact ops_sound (clD_sound hT hS true) ops.toList sis 0 e M G a w (fun j => by simp) (hnt ▸ hsis) rfl hI hE r.1 r.2 hr hQ
      · rename_i cert cs1
        split at hc
        · rename_i hok
          simp only [Option.some.injEq, Prod.mk.injEq] at hc
          obtain ⟨rfl, -, -⟩ := hc
          simp only [D, Option.map_eq_some_iff, Prod.mk.injEq] at hD
          obtain ⟨r, hr, rfl, rfl, rfl⟩ := hD
          obtain ⟨vals, envs, mems, ht, t1, t2⟩ := trace_of hr
          refine wp_region_any hT.mixed ?_
          have hlen : sis.length = ops.size := by simpa using (slimL_get hsis).1
          have hrep : ∀ j, (Array.replicate ops.size false).getD j false = false := fun j => by simp [Array.getD_eq_getD_getElem?, Array.getElem?_replicate]; split <;> rfl
          refine draw_sound (clD_sound hT hS false) clD_box (drawOk_spec hok) (hnt ▸ hsis) ht (B := B) (w0 := w0) (G := G) (a0 := a) (n0 := M.boxes.length) rfl (fun a' w' hp => ?_) ops.size (List.range ops.size) _ a _ (by simp) (fun i hi _ => by simpa [hlen] using hi) ?_
          · rw [t1, t2] at hp
            exact hQ a' w' hp
          · refine ⟨by simp, fun j _ hj => (by rw [hrep] at hj; cases hj), rfl, rfl, 0, G, e, Nat.zero_le _, fun i si _ _ => ?_, Goes.refl .., ?_, ?_, ?_, fun i si t _ hl => (by rw [hrep] at hl; cases hl), fun t _ => rfl⟩
            · rw [hrep]; simp
            · rw [ht.m0]; exact hI.drew
            · rw [ht.m0]; exact hE
            · rw [ht.m0]; exact Nat.le_refl _
        · cases hc
      · cases hc
    · cases hc
  | seq c1 c2 =>
    simp only [slimC] at hc
    split at hc
    · rename_i s1 k1 q1 h1
      split at hc
      · rename_i s2 k2 q2 h2
        simp only [Option.some.injEq, Prod.mk.injEq] at hc
        obtain ⟨rfl, -, -⟩ := hc
        refine wp_seq ?_
        simp only [D] at hD
        split at hD
        · rename_i e1 M1 hD1
          refine hS.code nt c1 _ _ s1 _ _ h1 e M .normal e1 M1 hD1 B w0 G a w _ hnt hI hE fun a1 w1 hp => ?_
          obtain ⟨p1, p2, ⟨G1, p3, p4, p5⟩, p6⟩ := hp
          exact hS.code nt c2 _ _ s2 _ _ h2 e1 M1 x e' M' hD B w0 G1 a1 w1 Q (by omega) p4 p5 fun a' w' h => hQ a' w' (h.trans p3 p1 p2 p6)
        · rename_i hne
          refine hS.code nt c1 _ _ s1 _ _ h1 e M x e' M' hD B w0 G a w _ hnt hI hE fun a1 w1 hp => ?_
          have h := hQ a1 w1 hp
          cases x with
          | normal => exact absurd hD (hne _ _)
          | exit j => exact h
          | ret => exact h
      · cases hc
    · cases hc
  | cond cx c1 c2 =>
    simp only [slimC] at hc
    split at hc
    · rename_i sx s1 k1 q1 hx h1
      split at hc
      · rename_i s2 k2 q2 h2
        simp only [Option.some.injEq, Prod.mk.injEq] at hc
        obtain ⟨rfl, -, -⟩ := hc
        simp only [D] at hD
        split at hD
        · rename_i t ht
          obtain ⟨x1, x2⟩ := slimX_V hE hx
          rw [ht] at x1
          refine wp_cond x1.bool_inv ?_
          cases t
          · exact hS.code nt c2 _ _ s2 _ _ h2 e M x e' M' hD B w0 G a w Q hnt hI hE hQ
          · exact hS.code nt c1 _ _ s1 _ _ h1 e M x e' M' hD B w0 G a w Q hnt hI hE hQ
        · cases hD
      · cases hc
    · cases hc
  | block j c1 =>
    simp only [slimC] at hc
    split at hc
    · rename_i s1 k1 q1 h1
      simp only [Option.some.injEq, Prod.mk.injEq] at hc
      obtain ⟨rfl, -, -⟩ := hc
      refine wp_block ?_
      simp only [D] at hD
      split at hD
      · rename_i i e1 M1 hD1
        refine hS.code nt c1 _ _ s1 _ _ h1 e M (.exit i) e1 M1 hD1 B w0 G a w _ hnt hI hE fun a1 w1 hp => ?_
        simp only [Ex.out, Exit.inBlock]
        split at hD
        · rename_i hij
          simp only [Option.some.injEq, Prod.mk.injEq] at hD
          obtain ⟨rfl, rfl, rfl⟩ := hD
          rw [if_pos hij]
          exact hQ a1 w1 hp
        · rename_i hij
          simp only [Option.some.injEq, Prod.mk.injEq] at hD
          obtain ⟨rfl, rfl, rfl⟩ := hD
          rw [if_neg hij]
          exact hQ a1 w1 hp
      · rename_i hne
        refine hS.code nt c1 _ _ s1 _ _ h1 e M x e' M' hD B w0 G a w _ hnt hI hE fun a1 w1 hp => ?_
        have h := hQ a1 w1 hp
        cases x with
        | normal => exact h
        | exit i => exact absurd hD (hne _ _ _)
        | ret => exact h
    · cases hc
  | loop c1 =>
    cases ks with
    | nil => simp only [slimC] at hc; cases hc
    | cons k kr =>
      simp only [slimC] at hc
      split at hc
      · rename_i s1 k1 q1 h1
        simp only [Option.some.injEq, Prod.mk.injEq] at hc
        obtain ⟨rfl, -, -⟩ := hc
        exact wp_loop_in (loop nt c1 _ _ s1 _ _ k h1 e M x e' M' hD B w0 G a w Q hnt hI hE hQ)
      · cases hc
  | _ => cases ks <;> simp only [slimC] at hc <;> cases hc

theorem sound (hT : TabOk P T) : ∀ n, Sound P (D T n)
  | 0 => Sound.none
  | n + 1 => Sound.step hT (sound hT n)
end
end Go.AM

namespace Go.AM
open AV Go.RowKit

def ClLe (cl cl' : FuncId → List AV → Mem → Option (AV × Mem)) : Prop := ∀ f as M r, cl f as M = some r → cl' f as M = some r
def DnLe (D D' : SC → Env → Mem → Option (Ex × Env × Mem)) : Prop := ∀ c e M r, D c e M = some r → D' c e M = some r

theorem SOp.ev_mono {cl cl'} (h : ClLe cl cl') {so : SOp} {e : Env} {M : Mem} {r : AV × Mem} (hr : so.ev cl e M = some r) : so.ev cl' e M = some r := by
  cases so <;> first
    | exact hr
    | (simp only [SOp.ev] at hr ⊢; exact h _ _ _ _ hr)
    | (simp only [SOp.ev] at hr ⊢; split at hr <;> first | exact h _ _ _ _ hr | cases hr)
theorem SI.ev_mono {cl cl'} (h : ClLe cl cl') {i : SI} {e : Env} {M : Mem} {r : AV × Mem} (hr : i.ev cl e M = some r) : i.ev cl' e M = some r := by
  unfold SI.ev at hr ⊢
  split at hr
  · exact SOp.ev_mono h hr
  · exact hr
  · cases hr
theorem evOps_mono {cl cl'} (h : ClLe cl cl') : ∀ {l : List SI} {e : Env} {M : Mem} {r : Env × Mem}, evOps cl e M l = some r → evOps cl' e M l = some r
  | [], _, _, _, hr => hr
  | i :: l, e, M, r, hr => by
    simp only [evOps] at hr ⊢
    split at hr
    · rename_i v M' hi
      rw [SI.ev_mono h hi]
      exact evOps_mono h hr
    · cases hr

section
variable {D D' : SC → Env → Mem → Option (Ex × Env × Mem)} {T : Tab}
theorem runF_mono (h : DnLe D D') {s : SFun} {as : List AV} {M : Mem} {r : AV × Mem} (hr : runF D s as M = some r) : runF D' s as M = some r := by
  unfold runF at hr ⊢
  split at hr
  · rename_i hn
    rw [if_pos hn]
    split at hr
    · rename_i hd; rw [h _ _ _ _ hd]; exact hr
    · rename_i hd; rw [h _ _ _ _ hd]; exact hr
    · cases hr
  · cases hr
theorem runOwn_mono (h : DnLe D D') {s : SFun} {as : List AV} {r : AV × List (Nat × Nat)} (hr : runOwn D s as = some r) : runOwn D' s as = some r := by
  unfold runOwn at hr ⊢
  split at hr
  · rename_i hd; rw [runF_mono h hd]; exact hr
  · cases hr
theorem clFull_mono (h : DnLe D D') {s : SFun} {as : List AV} {M : Mem} {r : AV × Mem} (hr : clFull D s as M = some r) : clFull D' s as M = some r := by
  unfold clFull at hr ⊢
  split at hr
  · rename_i hd; rw [runF_mono h hd]; exact hr
  · cases hr
theorem full_mono (h : DnLe D D') {s : SFun} {fl : Bool} {as : List AV} {M : Mem} {r : AV × Mem} (hr : (if fl = true then clFull D s as M else none) = some r) : (if fl = true then clFull D' s as M else none) = some r := by
  split at hr
  · rename_i hf; rw [if_pos hf]; exact clFull_mono h hr
  · cases hr
theorem clD_mono (h : DnLe D D') (fl : Bool) : ClLe (clD D T fl) (clD D' T fl) := by
  intro f as M r hr
  unfold clD at hr ⊢
  split at hr
  · exact hr
  · split at hr
    · split at hr
      · split at hr
        · rename_i hd; rw [runOwn_mono h hd]; exact hr
        · cases hr
      · split at hr
        · rename_i hd; rw [runOwn_mono h hd]; exact hr
        · cases hr
      · split at hr
        · rename_i hd; rw [runOwn_mono h hd]; exact hr
        · cases hr
      · exact full_mono h hr
      · exact full_mono h hr
      · cases hr
    · cases hr
end

theorem D_step (T : Tab) : ∀ n, DnLe (D T n) (D T (n + 1))
  | 0, _, _, _, _, h => by cases h
  | n + 1, c, e, M, r, h => by
    have ih := D_step T n
    cases c with
    | skip => exact h
    | ret => exact h
    | exit k => exact h
    | reg dr ops =>
      rw [D, Option.map_eq_some_iff] at h ⊢
      obtain ⟨q, hq, rfl⟩ := h
      exact ⟨q, evOps_mono (clD_mono ih _) hq, rfl⟩
    | seq a b =>
      rw [D] at h ⊢
      split at h
      · rename_i hd; rw [ih _ _ _ _ hd]; exact ih _ _ _ _ h
      · rename_i hne
        rw [ih _ _ _ _ h]
        split
        · rename_i hr; exact absurd (h.trans hr) (hne _ _)
        · rfl
    | cond x a b =>
      rw [D] at h ⊢
      split at h
      · rename_i t ht
        cases t
        · exact ih _ _ _ _ h
        · exact ih _ _ _ _ h
      · cases h
    | block k a =>
      rw [D] at h ⊢
      split at h
      · rename_i hd; rw [ih _ _ _ _ hd]; exact h
      · rename_i hne
        rw [ih _ _ _ _ h]
        split
        · rename_i hr; exact absurd (h.trans hr) (hne _ _ _)
        · rfl
    | loop ks a =>
      rw [D] at h ⊢
      split at h
      · rename_i hd; rw [ih _ _ _ _ hd]; exact ih _ _ _ _ h
      · rename_i hne hd
        rw [ih _ _ _ _ hd]
        split
        · rename_i hr; simp only [Option.some.injEq, Prod.mk.injEq] at hr; obtain ⟨rfl, rfl, rfl⟩ := hr; exact (hne rfl).elim
        · rename_i hr; simp only [Option.some.injEq, Prod.mk.injEq] at hr; obtain ⟨rfl, rfl, rfl⟩ := hr; exact h
        · rename_i hr; cases hr
      · cases h
theorem D_le (T : Tab) {n m : Nat} (h : n ≤ m) : DnLe (D T n) (D T m) := by
  induction h with
  | refl => exact fun _ _ _ _ h => h
  | step _ ih => exact fun c e M r h => D_step T _ _ _ _ _ (ih c e M r h)

open Classical in
noncomputable def Dinf (T : Tab) (c : SC) (e : Env) (M : Mem) : Option (Ex × Env × Mem) :=
  if h : ∃ r n, D T n c e M = some r then some (Classical.choose h) else none

theorem Dinf_iff {T : Tab} {c : SC} {e : Env} {M : Mem} {r : Ex × Env × Mem} : Dinf T c e M = some r ↔ ∃ n, D T n c e M = some r := by
  unfold Dinf
  constructor
  · intro h
    split at h
    · rename_i hx
      obtain rfl := Option.some.inj h
      exact Classical.choose_spec hx
    · cases h
  · rintro ⟨n, hn⟩
    have hx : ∃ r n, D T n c e M = some r := ⟨r, n, hn⟩
    rw [dif_pos hx]
    obtain ⟨m, hm⟩ := Classical.choose_spec hx
    have h1 := D_le T (Nat.le_max_left n m) _ _ _ _ hn
    have h2 := D_le T (Nat.le_max_right n m) _ _ _ _ hm
    rw [h1] at h2
    exact h2.symm

theorem D_Dinf (T : Tab) (n : Nat) : DnLe (D T n) (Dinf T) := fun _ _ _ _ h => Dinf_iff.2 ⟨n, h⟩

/-- The calls of the machine without fuel. -/
noncomputable def Cl (T : Tab) (fl : Bool) : FuncId → List AV → Mem → Option (AV × Mem) := clD (Dinf T) T fl

section
variable {T : Tab}
theorem runF_fin {s : SFun} {as : List AV} {M : Mem} {r : AV × Mem} (hr : runF (Dinf T) s as M = some r) : ∃ n, runF (D T n) s as M = some r := by
  unfold runF at hr
  split at hr
  · rename_i hn
    split at hr
    · rename_i hd; obtain ⟨n, hn'⟩ := Dinf_iff.1 hd; refine ⟨n, ?_⟩; unfold runF; rw [if_pos hn, hn']; exact hr
    · rename_i hd; obtain ⟨n, hn'⟩ := Dinf_iff.1 hd; refine ⟨n, ?_⟩; unfold runF; rw [if_pos hn, hn']; exact hr
    · cases hr
  · cases hr
theorem runOwn_fin {s : SFun} {as : List AV} {r : AV × List (Nat × Nat)} (hr : runOwn (Dinf T) s as = some r) : ∃ n, runOwn (D T n) s as = some r := by
  unfold runOwn at hr
  split at hr
  · rename_i hd; obtain ⟨n, hn⟩ := runF_fin hd; refine ⟨n, ?_⟩; unfold runOwn; rw [hn]; exact hr
  · cases hr
theorem full_fin {s : SFun} {fl : Bool} {as : List AV} {M : Mem} {r : AV × Mem} (hr : (if fl = true then clFull (Dinf T) s as M else none) = some r) : ∃ n, (if fl = true then clFull (D T n) s as M else none) = some r := by
  split at hr
  · rename_i hf
    unfold clFull at hr
    split at hr
    · rename_i hd; obtain ⟨n, hn⟩ := runF_fin hd; refine ⟨n, ?_⟩; rw [if_pos hf]; unfold clFull; rw [hn]; exact hr
    · cases hr
  · cases hr
theorem clD_fin {fl : Bool} {f : FuncId} {as : List AV} {M : Mem} {r : AV × Mem} (hr : Cl T fl f as M = some r) : ∃ n, clD (D T n) T fl f as M = some r := by
  unfold Cl clD at hr
  split at hr
  · rename_i h1; refine ⟨0, ?_⟩; unfold clD; rw [h1]; exact hr
  · rename_i h1
    split at hr
    · rename_i s h2
      split at hr
      · rename_i h3 h4
        split at hr
        · rename_i hd; obtain ⟨n, hn⟩ := runOwn_fin hd; refine ⟨n, ?_⟩; unfold clD; simp only [h1, h2, h3, h4, hn]; exact hr
        · cases hr
      · rename_i h3 h4
        split at hr
        · rename_i hd; obtain ⟨n, hn⟩ := runOwn_fin hd; refine ⟨n, ?_⟩; unfold clD; simp only [h1, h2, h3, h4, hn]; exact hr
        · cases hr
      · rename_i h3 h4
        split at hr
        · rename_i hd; obtain ⟨n, hn⟩ := runOwn_fin hd; refine ⟨n, ?_⟩; unfold clD; simp only [h1, h2, h3, h4, hn]; exact hr
        · cases hr
      · rename_i h3 h4; obtain ⟨n, hn⟩ := full_fin hr; refine ⟨n, ?_⟩; unfold clD; simp only [h1, h2, h3, h4]; exact hn
      · rename_i h3; obtain ⟨n, hn⟩ := full_fin hr; refine ⟨n, ?_⟩; unfold clD; simp only [h1, h2, h3]; exact hn
      · cases hr
    · cases hr
theorem op_fin {fl : Bool} {so : SOp} {e : Env} {M : Mem} {r : AV × Mem} (hr : so.ev (Cl T fl) e M = some r) : ∃ n, so.ev (clD (D T n) T fl) e M = some r := by
  cases so <;> first
    | exact ⟨0, hr⟩
    | (simp only [SOp.ev] at hr ⊢; exact clD_fin hr)
    | (simp only [SOp.ev] at hr ⊢; split at hr <;> first | exact clD_fin hr | cases hr)
theorem evOps_fin {fl : Bool} : ∀ {l : List SI} {e : Env} {M : Mem} {r : Env × Mem}, evOps (Cl T fl) e M l = some r → ∃ n, evOps (clD (D T n) T fl) e M l = some r
  | [], _, _, _, hr => ⟨0, hr⟩
  | i :: l, e, M, r, hr => by
    simp only [evOps] at hr ⊢
    split at hr
    · rename_i v M' hi
      have : ∃ n, i.ev (clD (D T n) T fl) e M = some (v, M') := by
        unfold SI.ev at hi ⊢
        split at hi
        · exact op_fin hi
        · exact ⟨0, hi⟩
        · cases hi
      obtain ⟨n, hn⟩ := this
      obtain ⟨m, hm⟩ := evOps_fin hr
      refine ⟨max n m, ?_⟩
      rw [SI.ev_mono (clD_mono (D_le T (Nat.le_max_left n m)) fl) hn]
      exact evOps_mono (clD_mono (D_le T (Nat.le_max_right n m)) fl) hm
    · cases hr

theorem opt_ext {α : Type} {a b : Option α} (h : ∀ r, a = some r ↔ b = some r) : a = b := by
  cases a with
  | none => cases b with
    | none => rfl
    | some b => exact ((h b).2 rfl)
  | some a => exact ((h a).1 rfl).symm

theorem Dinf_skip (e : Env) (M : Mem) : Dinf T .skip e M = some (.normal, e, M) := Dinf_iff.2 ⟨1, rfl⟩
theorem Dinf_ret (e : Env) (M : Mem) : Dinf T .ret e M = some (.ret, e, M) := Dinf_iff.2 ⟨1, rfl⟩
theorem Dinf_exit (k : Nat) (e : Env) (M : Mem) : Dinf T (.exit k) e M = some (.exit k, e, M) := Dinf_iff.2 ⟨1, rfl⟩
theorem Dinf_reg (dr : Bool) (ops : List SI) (e : Env) (M : Mem) : Dinf T (.reg dr ops) e M = (evOps (Cl T (!dr)) e M ops).map fun r => (.normal, r.1, r.2) := by
  refine opt_ext fun r => ?_
  rw [Dinf_iff, Option.map_eq_some_iff]
  constructor
  · rintro ⟨n, hn⟩
    cases n with
    | zero => cases hn
    | succ n =>
      rw [D, Option.map_eq_some_iff] at hn
      obtain ⟨q, hq, rfl⟩ := hn
      exact ⟨q, evOps_mono (clD_mono (D_Dinf T n) _) hq, rfl⟩
  · rintro ⟨q, hq, rfl⟩
    obtain ⟨n, hn⟩ := evOps_fin hq
    exact ⟨n + 1, by rw [D, hn]; rfl⟩
theorem Dinf_seq (a b : SC) (e : Env) (M : Mem) : Dinf T (.seq a b) e M = match Dinf T a e M with
    | some (.normal, e', M') => Dinf T b e' M'
    | r => r := by
  refine opt_ext fun r => ?_
  rw [Dinf_iff]
  constructor
  · rintro ⟨n, hn⟩
    cases n with
    | zero => cases hn
    | succ n =>
      rw [D] at hn
      split at hn
      · rename_i hd; rw [D_Dinf T n _ _ _ _ hd]; exact D_Dinf T n _ _ _ _ hn
      · rename_i hne
        rw [D_Dinf T n _ _ _ _ hn]
        split
        · rename_i hr; exact absurd (hn.trans hr) (hne _ _)
        · rfl
  · intro h
    split at h
    · rename_i hd
      obtain ⟨n, hn⟩ := Dinf_iff.1 hd
      obtain ⟨m, hm⟩ := Dinf_iff.1 h
      exact ⟨max n m + 1, by rw [D, D_le T (Nat.le_max_left n m) _ _ _ _ hn]; exact D_le T (Nat.le_max_right n m) _ _ _ _ hm⟩
    · rename_i hne
      obtain ⟨n, hn⟩ := Dinf_iff.1 h
      refine ⟨n + 1, ?_⟩
      rw [D, hn]
      split
      · rename_i hr; exact absurd (h.trans hr) (hne _ _)
      · rfl
theorem Dinf_cond (x : X) (a b : SC) (e : Env) (M : Mem) : Dinf T (.cond x a b) e M = match x.ev e with
    | .bool t => bif t then Dinf T a e M else Dinf T b e M
    | _ => none := by
  refine opt_ext fun r => ?_
  rw [Dinf_iff]
  constructor
  · rintro ⟨n, hn⟩
    cases n with
    | zero => cases hn
    | succ n =>
      rw [D] at hn
      split at hn
      · rename_i t ht
        rw [ht]
        cases t
        · exact D_Dinf T n _ _ _ _ hn
        · exact D_Dinf T n _ _ _ _ hn
      · cases hn
  · intro h
    split at h
    · rename_i t ht
      cases t
      · obtain ⟨n, hn⟩ := Dinf_iff.1 h
        exact ⟨n + 1, by rw [D, ht]; exact hn⟩
      · obtain ⟨n, hn⟩ := Dinf_iff.1 h
        exact ⟨n + 1, by rw [D, ht]; exact hn⟩
    · cases h
theorem Dinf_block (k : Nat) (a : SC) (e : Env) (M : Mem) : Dinf T (.block k a) e M = match Dinf T a e M with
    | some (.exit j, e', M') => if j = k then some (.normal, e', M') else some (.exit j, e', M')
    | r => r := by
  refine opt_ext fun r => ?_
  rw [Dinf_iff]
  constructor
  · rintro ⟨n, hn⟩
    cases n with
    | zero => cases hn
    | succ n =>
      rw [D] at hn
      split at hn
      · rename_i hd; rw [D_Dinf T n _ _ _ _ hd]; exact hn
      · rename_i hne
        rw [D_Dinf T n _ _ _ _ hn]
        split
        · rename_i hr; exact absurd (hn.trans hr) (hne _ _ _)
        · rfl
  · intro h
    split at h
    · rename_i hd
      obtain ⟨n, hn⟩ := Dinf_iff.1 hd
      exact ⟨n + 1, by rw [D, hn]; exact h⟩
    · rename_i hne
      obtain ⟨n, hn⟩ := Dinf_iff.1 h
      refine ⟨n + 1, ?_⟩
      rw [D, hn]
      split
      · rename_i hr; exact absurd (h.trans hr) (hne _ _ _)
      · rfl
theorem Dinf_loop (ks : List Nat) (a : SC) (e : Env) (M : Mem) : Dinf T (.loop ks a) e M = match Dinf T a (pick ks e) M with
    | some (.normal, e', M') => Dinf T (.loop ks a) e' M'
    | some (x, e', M') => some (x, pick ks e', M')
    | none => none := by
  refine opt_ext fun r => ?_
  rw [Dinf_iff]
  constructor
  · rintro ⟨n, hn⟩
    cases n with
    | zero => cases hn
    | succ n =>
      rw [D] at hn
      split at hn
      · rename_i hd; rw [D_Dinf T n _ _ _ _ hd]; exact D_Dinf T n _ _ _ _ hn
      · rename_i x e' M' hne hd
        rw [D_Dinf T n _ _ _ _ hd]
        cases x with
        | normal => exact (hne rfl).elim
        | exit j => exact hn
        | ret => exact hn
      · cases hn
  · intro h
    split at h
    · rename_i hd
      obtain ⟨n, hn⟩ := Dinf_iff.1 hd
      obtain ⟨m, hm⟩ := Dinf_iff.1 h
      exact ⟨max n m + 1, by rw [D, D_le T (Nat.le_max_left n m) _ _ _ _ hn]; exact D_le T (Nat.le_max_right n m) _ _ _ _ hm⟩
    · rename_i x e' M' hne hd
      obtain ⟨n, hn⟩ := Dinf_iff.1 hd
      refine ⟨n + 1, ?_⟩
      rw [D, hn]
      cases x with
      | normal => exact (hne rfl).elim
      | exit j => exact h
      | ret => exact h
    · cases h

theorem sound_inf {P : Program} (hT : TabOk P T) : Sound P (Dinf T) := by
  refine ⟨?_, ?_⟩
  · intro nt c ks cs s ks' cs' hc e M x e' M' hD
    obtain ⟨n, hn⟩ := Dinf_iff.1 hD
    exact (sound hT n).code nt c ks cs s ks' cs' hc e M x e' M' hn
  · intro nt c ks cs s ks' cs' k hc e M x e' M' hD
    obtain ⟨n, hn⟩ := Dinf_iff.1 hD
    exact (sound hT n).loop nt c ks cs s ks' cs' k hc e M x e' M' hn
theorem Cl_sound {P : Program} (hT : TabOk P T) (fl : Bool) : ClOk P (Cl T fl) := clD_sound hT (sound_inf hT) fl
end
end Go.AM

namespace Go.AM
open AV Go.RowKit

/-- The code ends, and at its end Q holds. -/
def W (T : Tab) (c : SC) (e : Env) (M : Mem) (Q : Ex → Env → Mem → Prop) : Prop := ∃ x e' M', Dinf T c e M = some (x, e', M') ∧ Q x e' M'

theorem wantA_none' (e : Env) : wantA e none = some true := rfl
def WO (cl : FuncId → List AV → Mem → Option (AV × Mem)) : List SI → Env → Mem → (Env → Mem → Prop) → Prop
  | [], e, M, K => K e M
  | i :: r, e, M, K => match i.ev cl e M with
    | some (v, M') => WO cl r (updO e i.d v) M' K
    | none => False

theorem WO_iff {cl : FuncId → List AV → Mem → Option (AV × Mem)} {K : Env → Mem → Prop} : ∀ {l : List SI} {e : Env} {M : Mem}, WO cl l e M K ↔ ∃ e' M', evOps cl e M l = some (e', M') ∧ K e' M'
  | [], e, M => ⟨fun h => ⟨e, M, rfl, h⟩, fun ⟨e', M', h, hK⟩ => by
      simp only [evOps, Option.some.injEq, Prod.mk.injEq] at h
      obtain ⟨rfl, rfl⟩ := h
      exact hK⟩
  | i :: r, e, M => by
    simp only [WO, evOps]
    cases i.ev cl e M with
    | some r => exact WO_iff
    | none => exact ⟨fun h => h.elim, fun ⟨_, _, h, _⟩ => by cases h⟩

def thenQ (K : Env → Mem → Prop) (Q : Ex → Env → Mem → Prop) : Ex → Env → Mem → Prop
  | .normal, e, M => K e M
  | x, e, M => Q x e M
def blockQ (k : Nat) (Q : Ex → Env → Mem → Prop) : Ex → Env → Mem → Prop
  | .exit j, e, M => if j = k then Q .normal e M else Q (.exit j) e M
  | x, e, M => Q x e M

section
variable {T : Tab} {Q : Ex → Env → Mem → Prop} {e : Env} {M : Mem}
theorem W_mono {c : SC} {Q' : Ex → Env → Mem → Prop} (h : W T c e M Q) (hq : ∀ x e M, Q x e M → Q' x e M) : W T c e M Q' := by
  obtain ⟨x, e', M', h, q⟩ := h
  exact ⟨x, e', M', h, hq _ _ _ q⟩
theorem W_skip : W T .skip e M Q ↔ Q .normal e M := by
  unfold W; rw [Dinf_skip]
  exact ⟨fun ⟨_, _, _, h, q⟩ => by simp only [Option.some.injEq, Prod.mk.injEq] at h; obtain ⟨rfl, rfl, rfl⟩ := h; exact q, fun q => ⟨_, _, _, rfl, q⟩⟩
theorem W_ret : W T .ret e M Q ↔ Q .ret e M := by
  unfold W; rw [Dinf_ret]
  exact ⟨fun ⟨_, _, _, h, q⟩ => by simp only [Option.some.injEq, Prod.mk.injEq] at h; obtain ⟨rfl, rfl, rfl⟩ := h; exact q, fun q => ⟨_, _, _, rfl, q⟩⟩
theorem W_exit {k : Nat} : W T (.exit k) e M Q ↔ Q (.exit k) e M := by
  unfold W; rw [Dinf_exit]
  exact ⟨fun ⟨_, _, _, h, q⟩ => by simp only [Option.some.injEq, Prod.mk.injEq] at h; obtain ⟨rfl, rfl, rfl⟩ := h; exact q, fun q => ⟨_, _, _, rfl, q⟩⟩
theorem W_reg {dr : Bool} {ops : List SI} : W T (.reg dr ops) e M Q ↔ WO (Cl T (!dr)) ops e M (fun e' M' => Q .normal e' M') := by
  unfold W; rw [Dinf_reg, WO_iff]
  constructor
  · rintro ⟨x, e', M', h, q⟩
    simp only [Option.map_eq_some_iff, Prod.mk.injEq] at h
    obtain ⟨r, hr, rfl, rfl, rfl⟩ := h
    exact ⟨_, _, hr, q⟩
  · rintro ⟨e', M', h, q⟩
    exact ⟨_, _, _, by rw [h]; rfl, q⟩
theorem W_seq {a b : SC} : W T (.seq a b) e M Q ↔ W T a e M (thenQ (fun e' M' => W T b e' M' Q) Q) := by
  unfold W; rw [Dinf_seq]
  constructor
  · rintro ⟨x, e', M', h, q⟩
    split at h
    · rename_i h1; exact ⟨_, _, _, h1, x, e', M', h, q⟩
    · rename_i hne
      refine ⟨x, e', M', h, ?_⟩
      cases x with
      | normal => exact absurd h (hne _ _)
      | exit k => exact q
      | ret => exact q
  · rintro ⟨x, e', M', h, q⟩
    rw [h]
    cases x with
    | normal => exact q
    | exit k => exact ⟨_, _, _, rfl, q⟩
    | ret => exact ⟨_, _, _, rfl, q⟩
theorem W_cond {x : X} {a b : SC} : W T (.cond x a b) e M Q ↔ match x.ev e with
    | .bool t => if t = true then W T a e M Q else W T b e M Q
    | _ => False := by
  unfold W; rw [Dinf_cond]
  cases x.ev e with
  | bool t => cases t <;> simp
  | _ => exact ⟨fun ⟨_, _, _, h, _⟩ => (by cases h), fun h => h.elim⟩
theorem W_block {k : Nat} {a : SC} : W T (.block k a) e M Q ↔ W T a e M (blockQ k Q) := by
  unfold W; rw [Dinf_block]
  constructor
  · rintro ⟨x, e', M', h, q⟩
    split at h
    · rename_i h1
      refine ⟨_, _, _, h1, ?_⟩
      simp only [blockQ]
      split at h
      · rename_i hj; rw [if_pos hj]; simp only [Option.some.injEq, Prod.mk.injEq] at h; obtain ⟨rfl, rfl, rfl⟩ := h; exact q
      · rename_i hj; rw [if_neg hj]; simp only [Option.some.injEq, Prod.mk.injEq] at h; obtain ⟨rfl, rfl, rfl⟩ := h; exact q
    · rename_i hne
      refine ⟨x, e', M', h, ?_⟩
      cases x with
      | normal => exact q
      | exit k => exact absurd h (hne _ _ _)
      | ret => exact q
  · rintro ⟨x, e', M', h, q⟩
    rw [h]
    cases x with
    | normal => exact ⟨_, _, _, rfl, q⟩
    | exit j =>
      simp only [blockQ] at q
      by_cases hj : j = k
      · rw [if_pos hj] at q; exact ⟨.normal, e', M', by simp only [hj, if_true], q⟩
      · rw [if_neg hj] at q; exact ⟨.exit j, e', M', by simp only [hj, if_false], q⟩
    | ret => exact ⟨_, _, _, rfl, q⟩
def loopQ (ks : List Nat) (K : Env → Mem → Prop) (Q : Ex → Env → Mem → Prop) : Ex → Env → Mem → Prop
  | .normal, e, M => K e M
  | x, e, M => Q x (pick ks e) M
/-- One round. -/
theorem W_loop {ks : List Nat} {a : SC} : W T (.loop ks a) e M Q ↔ W T a (pick ks e) M (loopQ ks (fun e' M' => W T (.loop ks a) e' M' Q) Q) := by
  unfold W; rw [Dinf_loop]
  constructor
  · rintro ⟨x, e', M', h, q⟩
    split at h
    · rename_i h1; exact ⟨_, _, _, h1, x, e', M', h, q⟩
    · rename_i y e1 M1 hne h1
      simp only [Option.some.injEq, Prod.mk.injEq] at h
      obtain ⟨rfl, rfl, rfl⟩ := h
      refine ⟨_, _, _, h1, ?_⟩
      cases y with
      | normal => exact (hne rfl).elim
      | exit k => exact q
      | ret => exact q
    · cases h
  · rintro ⟨x, e', M', h, q⟩
    rw [h]
    cases x with
    | normal => exact q
    | exit k => exact ⟨_, _, _, rfl, q⟩
    | ret => exact ⟨_, _, _, rfl, q⟩

/-- What stands at the end of a function. -/
def endQ (s : SFun) (Q : AV → Mem → Prop) : Ex → Env → Mem → Prop
  | .exit _, _, _ => False
  | _, e, M => match resL e M s.res with
    | some l => Q (oneOrTup l) M
    | none => False

theorem runF_W {s : SFun} {as : List AV} {R : AV → Mem → Prop} (hn : as.length ≤ s.nt) (h : W T s.body (argEnv 0 as) M (endQ s R)) : ∃ r M', runF (Dinf T) s as M = some (r, M') ∧ R r M' := by
  obtain ⟨x, e', M', h, q⟩ := h
  unfold runF
  rw [if_pos hn, h]
  cases x with
  | exit k => exact q.elim
  | normal =>
    simp only [endQ] at q
    split at q
    · rename_i l hl; exact ⟨oneOrTup l, M', by simp only [hl, Option.map_some], q⟩
    · exact q.elim
  | ret =>
    simp only [endQ] at q
    split at q
    · rename_i l hl; exact ⟨oneOrTup l, M', by simp only [hl, Option.map_some], q⟩
    · exact q.elim

def sealQ (r : AV) (ts : List (Nat × Nat)) (v : AV) (M : Mem) : Prop := sealR v M = some (r, ts)

theorem cl_pure {fl : Bool} {f : FuncId} {s : SFun} {args ar : List AV} {r : AV} (h1 : T.ext f = none) (h2 : T.fn f = some s) (h3 : s.mode = .pure) (hs : snapL M args = some ar) (hn : ar.length ≤ s.nt)
    (h : W T s.body (argEnv 0 ar) ⟨[], []⟩ (endQ s fun v M' => ∃ ts, sealR v M' = some (r, ts))) : Cl T fl f args M = some (r.er, M) := by
  obtain ⟨v, M', hr, ts, hq⟩ := runF_W hn h
  unfold Cl clD
  simp only [h1, h2, h3, hs]
  unfold runOwn
  rw [hr]
  simp only [hq]
theorem cl_own {fl : Bool} {f : FuncId} {s : SFun} {args ar : List AV} {r : AV} {ts : List (Nat × Nat)} (h1 : T.ext f = none) (h2 : T.fn f = some s) (h3 : s.mode = .own) (hs : snapL M args = some ar) (hn : ar.length ≤ s.nt)
    (h : W T s.body (argEnv 0 ar) ⟨[], []⟩ (endQ s fun v M' => sealR v M' = some (r, ts))) : Cl T fl f args M = some (r.shift M.toks.length, ⟨M.boxes, M.toks ++ ts⟩) := by
  obtain ⟨v, M', hr, hq⟩ := runF_W hn h
  unfold Cl clD
  simp only [h1, h2, h3, hs]
  unfold runOwn
  rw [hr]
  simp only [hq]
theorem cl_box {fl : Bool} {f : FuncId} {s : SFun} {args ar : List AV} {r r' : AV} {ts : List (Nat × Nat)} {bs : List (List AV)} (h1 : T.ext f = none) (h2 : T.fn f = some s) (h3 : s.mode = .box) (hs : snapL M args = some ar) (hn : ar.length ≤ s.nt)
    (h : W T s.body (argEnv 0 ar) ⟨[], []⟩ (endQ s fun v M' => sealR v M' = some (r, ts))) (hb : boxR M.boxes.length r = some (r', bs)) : Cl T fl f args M = some (r', ⟨M.boxes ++ bs, M.toks⟩) := by
  obtain ⟨v, M', hr, hq⟩ := runF_W hn h
  unfold Cl clD
  simp only [h1, h2, h3, hs]
  unfold runOwn
  rw [hr]
  simp only [hq, hb]

theorem get_last {α : Type} (l : List α) (a : α) : (l ++ [a])[l.length]? = some a := by simp
theorem set_last {α : Type} (l : List α) (a b : α) : (l ++ [a]).set l.length b = l ++ [b] := by simp
/-! ### Looking up -/
theorem upd_at (e : Env) (d : Nat) (v : AV) (t : Nat) : upd e d v t = if t = d then v else e t := rfl
theorem updO_some (e : Env) (d : Nat) (v : AV) : updO e (some d) v = upd e d v := rfl
theorem updO_none (e : Env) (v : AV) : updO e none v = e := rfl
theorem argEnv_nil (k : Nat) : argEnv k [] = bot := rfl
theorem argEnv_cons (k : Nat) (a : AV) (r : List AV) : argEnv k (a :: r) = upd (argEnv (k + 1) r) k a := rfl
theorem bot_at (t : Nat) : bot t = .any := rfl
theorem wantA_none (e : Env) : wantA e none = some true := rfl
/-! ### With a stack: no function stands in the goal -/
inductive Fr where
  | sq (b : SC)
  | bk (k : Nat)
  | lp (ks : List Nat) (a : SC)
def frQ (T : Tab) (Q : Ex → Env → Mem → Prop) : List Fr → Ex → Env → Mem → Prop
  | [] => Q
  | .sq b :: st => thenQ (fun e' M' => W T b e' M' (frQ T Q st)) (frQ T Q st)
  | .bk k :: st => blockQ k (frQ T Q st)
  | .lp ks a :: st => loopQ ks (fun e' M' => W T (.loop ks a) e' M' (frQ T Q st)) (frQ T Q st)
def WS (T : Tab) (c : SC) (st : List Fr) (e : Env) (M : Mem) (Q : Ex → Env → Mem → Prop) : Prop := W T c e M (frQ T Q st)
def WE (T : Tab) (x : Ex) (st : List Fr) (e : Env) (M : Mem) (Q : Ex → Env → Mem → Prop) : Prop := frQ T Q st x e M
def WR (T : Tab) (dr : Bool) (ops : List SI) (st : List Fr) (e : Env) (M : Mem) (Q : Ex → Env → Mem → Prop) : Prop := WO (Cl T (!dr)) ops e M (fun e' M' => frQ T Q st .normal e' M')
def WL (T : Tab) (ks : List Nat) (a : SC) (st : List Fr) (e : Env) (M : Mem) (Q : Ex → Env → Mem → Prop) : Prop := WS T a (.lp ks a :: st) e M Q
def WC (T : Tab) (v : AV) (a b : SC) (st : List Fr) (e : Env) (M : Mem) (Q : Ex → Env → Mem → Prop) : Prop :=
  match v with
  | .bool t => if t = true then WS T a st e M Q else WS T b st e M Q
  | _ => False
def WT (T : Tab) (v : AV) (d : Option Nat) (dr : Bool) (r : List SI) (st : List Fr) (e : Env) (M : Mem) (Q : Ex → Env → Mem → Prop) : Prop :=
  match v with
  | .bool b => if b = true then WR T dr r st (updO e d (.bool true)) M Q else WR T dr r st (updO e d (.bool false)) M Q
  | v => WR T dr r st (updO e d v) M Q
def WV (T : Tab) (o : Option (AV × Mem)) (d : Option Nat) (dr : Bool) (r : List SI) (st : List Fr) (e : Env) (Q : Ex → Env → Mem → Prop) : Prop :=
  match o with
  | some (v, M) => WT T v d dr r st e M Q
  | none => False
def WG (T : Tab) (v : AV) (w : Bool) (d : Option Nat) (o : SOp) (dr : Bool) (r : List SI) (st : List Fr) (e : Env) (M : Mem) (Q : Ex → Env → Mem → Prop) : Prop :=
  match v with
  | .bool t => if t = w then WV T (o.ev (Cl T (!dr)) e M) d dr r st e Q else WR T dr r st (updO e d .und) M Q
  | .und => WR T dr r st (updO e d .und) M Q
  | _ => False

theorem WT_eq {v : AV} {d : Option Nat} {dr : Bool} {r : List SI} {st : List Fr} : WT T v d dr r st e M Q ↔ WR T dr r st (updO e d v) M Q := by
  unfold WT
  split
  · rename_i b; cases b <;> simp
  · rfl
theorem WS_skip {st : List Fr} : WS T .skip st e M Q ↔ WE T .normal st e M Q := W_skip
theorem WS_ret {st : List Fr} : WS T .ret st e M Q ↔ WE T .ret st e M Q := W_ret
theorem WS_exit {k : Nat} {st : List Fr} : WS T (.exit k) st e M Q ↔ WE T (.exit k) st e M Q := W_exit
theorem WS_seq {a b : SC} {st : List Fr} : WS T (.seq a b) st e M Q ↔ WS T a (.sq b :: st) e M Q := W_seq
theorem WS_block {k : Nat} {a : SC} {st : List Fr} : WS T (.block k a) st e M Q ↔ WS T a (.bk k :: st) e M Q := W_block
theorem WS_loop {ks : List Nat} {a : SC} {st : List Fr} : WS T (.loop ks a) st e M Q ↔ WL T ks a st (pick ks e) M Q := W_loop
theorem WS_cond {x : X} {a b : SC} {st : List Fr} : WS T (.cond x a b) st e M Q ↔ WC T (x.ev e) a b st e M Q := W_cond
theorem WS_reg {dr : Bool} {ops : List SI} {st : List Fr} : WS T (.reg dr ops) st e M Q ↔ WR T dr ops st e M Q := W_reg
theorem WE_nil {x : Ex} : WE T x [] e M Q ↔ Q x e M := Iff.rfl
theorem WE_sq_n {b : SC} {st : List Fr} : WE T .normal (.sq b :: st) e M Q ↔ WS T b st e M Q := Iff.rfl
theorem WE_sq_r {b : SC} {st : List Fr} : WE T .ret (.sq b :: st) e M Q ↔ WE T .ret st e M Q := Iff.rfl
theorem WE_sq_x {k : Nat} {b : SC} {st : List Fr} : WE T (.exit k) (.sq b :: st) e M Q ↔ WE T (.exit k) st e M Q := Iff.rfl
theorem WE_bk_n {k : Nat} {st : List Fr} : WE T .normal (.bk k :: st) e M Q ↔ WE T .normal st e M Q := Iff.rfl
theorem WE_bk_r {k : Nat} {st : List Fr} : WE T .ret (.bk k :: st) e M Q ↔ WE T .ret st e M Q := Iff.rfl
theorem WE_bk_x {j k : Nat} {st : List Fr} : WE T (.exit j) (.bk k :: st) e M Q ↔ if j = k then WE T .normal st e M Q else WE T (.exit j) st e M Q := Iff.rfl
theorem WE_lp_n {ks : List Nat} {a : SC} {st : List Fr} : WE T .normal (.lp ks a :: st) e M Q ↔ WL T ks a st (pick ks e) M Q := W_loop
theorem WE_lp_r {ks : List Nat} {a : SC} {st : List Fr} : WE T .ret (.lp ks a :: st) e M Q ↔ WE T .ret st (pick ks e) M Q := Iff.rfl
theorem WE_lp_x {k : Nat} {ks : List Nat} {a : SC} {st : List Fr} : WE T (.exit k) (.lp ks a :: st) e M Q ↔ WE T (.exit k) st (pick ks e) M Q := Iff.rfl
theorem WR_nil {dr : Bool} {st : List Fr} : WR T dr [] st e M Q ↔ WE T .normal st e M Q := Iff.rfl
theorem WR_cons {dr : Bool} {d : Option Nat} {o : SOp} {r : List SI} {st : List Fr} : WR T dr (⟨none, d, o⟩ :: r) st e M Q ↔ WV T (o.ev (Cl T (!dr)) e M) d dr r st e Q := by
  unfold WR WV
  simp only [WO, SI.ev, wantA_none']
  cases o.ev (Cl T (!dr)) e M with
  | none => exact Iff.rfl
  | some q => exact (WT_eq (v := q.1)).symm
theorem WR_guard {dr : Bool} {s : Nat} {w : Bool} {d : Option Nat} {o : SOp} {r : List SI} {st : List Fr} : WR T dr (⟨some (s, w), d, o⟩ :: r) st e M Q ↔ WG T (e s) w d o dr r st e M Q := by
  unfold WR WG WV
  simp only [WO, SI.ev, wantA]
  cases e s with
  | bool t =>
    by_cases h : t = w
    · subst h
      simp only [beq_self_eq_true, if_true]
      cases o.ev (Cl T (!dr)) e M with
      | none => exact Iff.rfl
      | some q => exact (WT_eq (v := q.1)).symm
    · have : (t == w) = false := by simpa using h
      simp only [this, if_neg h]
      exact Iff.rfl
  | _ => exact Iff.rfl
theorem WL_go {ks : List Nat} {a b : SC} {st : List Fr} (h : a = b) : WL T ks a st e M Q ↔ WS T b (.lp ks a :: st) e M Q := by subst h; exact Iff.rfl
theorem W_start {c : SC} : W T c e M Q ↔ WS T c [] e M Q := Iff.rfl
theorem seal_bool {b : Bool} {r : AV} : (∃ ts, sealR (.bool b) M = some (r, ts)) ↔ AV.bool b = r := by
  unfold sealR
  simp only [sealN]
  exact ⟨fun ⟨ts, h⟩ => by simp only [own, List.map_nil, distinct, and_self, if_true, Option.some.injEq, Prod.mk.injEq] at h; exact h.1, fun h => ⟨_, by rw [← h]; rfl⟩⟩
theorem seal_int {k : IntKind} {n : Int} {r : AV} : (∃ ts, sealR (.int k n) M = some (r, ts)) ↔ AV.int k n = r := by
  unfold sealR
  simp only [sealN]
  exact ⟨fun ⟨ts, h⟩ => by simp only [own, List.map_nil, distinct, and_self, if_true, Option.some.injEq, Prod.mk.injEq] at h; exact h.1, fun h => ⟨_, by rw [← h]; rfl⟩⟩
end
section
variable {T : Tab} {Q : Ex → Env → Mem → Prop} {e : Env} {M : Mem} {d : Option Nat} {dr : Bool} {r : List SI} {st : List Fr}
theorem WV_some {v : AV} : WV T (some (v, M)) d dr r st e Q ↔ WT T v d dr r st e M Q := Iff.rfl
theorem WT_bool {b : Bool} : WT T (.bool b) d dr r st e M Q ↔ if b = true then WR T dr r st (updO e d (.bool true)) M Q else WR T dr r st (updO e d (.bool false)) M Q := Iff.rfl
theorem WT_int {k : IntKind} {n : Int} : WT T (.int k n) d dr r st e M Q ↔ WR T dr r st (updO e d (.int k n)) M Q := Iff.rfl
theorem WT_str {s : ByteArray} : WT T (.str s) d dr r st e M Q ↔ WR T dr r st (updO e d (.str s)) M Q := Iff.rfl
theorem WT_nil : WT T .nil d dr r st e M Q ↔ WR T dr r st (updO e d .nil) M Q := Iff.rfl
theorem WT_ptr {b o : Nat} : WT T (.ptr b o) d dr r st e M Q ↔ WR T dr r st (updO e d (.ptr b o)) M Q := Iff.rfl
theorem WT_adr {cs : List AV} : WT T (.adr cs) d dr r st e M Q ↔ WR T dr r st (updO e d (.adr cs)) M Q := Iff.rfl
theorem WT_sl {t : Tok} {xs : List AV} : WT T (.sl t xs) d dr r st e M Q ↔ WR T dr r st (updO e d (.sl t xs)) M Q := Iff.rfl
theorem WT_agg {cs : List AV} : WT T (.agg cs) d dr r st e M Q ↔ WR T dr r st (updO e d (.agg cs)) M Q := Iff.rfl
theorem WT_tup {cs : List AV} : WT T (.tup cs) d dr r st e M Q ↔ WR T dr r st (updO e d (.tup cs)) M Q := Iff.rfl
theorem WT_fn {f : FuncId} {cs : List AV} : WT T (.fn f cs) d dr r st e M Q ↔ WR T dr r st (updO e d (.fn f cs)) M Q := Iff.rfl
theorem WT_bsl {b o n sz : Nat} {ag : Bool} : WT T (.bsl b o n sz ag) d dr r st e M Q ↔ WR T dr r st (updO e d (.bsl b o n sz ag)) M Q := Iff.rfl
theorem WT_und : WT T .und d dr r st e M Q ↔ WR T dr r st (updO e d .und) M Q := Iff.rfl
theorem WT_any : WT T .any d dr r st e M Q ↔ WR T dr r st (updO e d .any) M Q := Iff.rfl
theorem WC_bool {b : Bool} {a c : SC} : WC T (.bool b) a c st e M Q ↔ if b = true then WS T a st e M Q else WS T c st e M Q := Iff.rfl
theorem WG_bool {b w : Bool} {o : SOp} : WG T (.bool b) w d o dr r st e M Q ↔ if b = w then WV T (o.ev (Cl T (!dr)) e M) d dr r st e Q else WR T dr r st (updO e d .und) M Q := Iff.rfl
theorem WG_und {w : Bool} {o : SOp} : WG T .und w d o dr r st e M Q ↔ WR T dr r st (updO e d .und) M Q := Iff.rfl
end
end Go.AM
