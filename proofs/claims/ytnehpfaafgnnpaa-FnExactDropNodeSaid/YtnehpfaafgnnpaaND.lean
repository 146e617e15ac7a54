/- What is read as data is a tree value: numbers, bools, strings, slices and structs of such. A scene that is read. -/
import Derived.Test.YtnehpfaafgnnpaaMG
import Derived.ChangeArms
import Derived.OpenShut
import Derived.Test.YtnehpfaafgnnpaaNC
set_option linter.unusedSimpArgs false
set_option linter.unusedVariables false
set_option linter.unnecessarySimpa false
namespace Go.AM
open AV Go.RowKit

inductive K where
  | i (k : IntKind)
  | b
  | s
  | sl (e : K)
  | st (fs : List K)
mutual
def K.n : K → Nat
  | .st fs => K.nL fs
  | _ => 1
def K.nL : List K → Nat
  | [] => 0
  | k :: r => K.n k + K.nL r
end

def kindsW (P : Program) (g : TypeId → Option K) : Nat → List Field → Option (List K)
  | _, [] => some []
  | off, fd :: r => match g fd.type with
    | some k => if fd.offset = off ∧ P.cellsOf fd.type = K.n k then (kindsW P g (off + K.n k) r).map fun ks => k :: ks else none
    | none => none
def kindOf (P : Program) : Nat → TypeId → Option K
  | 0, _ => none
  | f + 1, t => match P.underlying t with
    | some .bool => some .b
    | some (.int k) => some (.i k)
    | some .string => some .s
    | some (.slice e) => match kindOf P f e with
      | some k => if P.cellsOf e = K.n k ∧ 0 < K.n k then some (.sl k) else none
      | none => none
    | some (.struct fs) => match kindsW P (kindOf P f) 0 fs.toList with
      | some ks => if P.cellsOf t = K.nL ks then some (.st ks) else none
      | none => none
    | _ => none

def K.isSt : K → Bool
  | .st _ => true
  | _ => false
/-- The cells of a value of the kind. -/
inductive Sh : K → List AV → Prop where
  | i (k : IntKind) (n : Int) (hw : (Lit.int k n).wf = true) : Sh (.i k) [.int k n]
  | b (x : Bool) : Sh .b [.bool x]
  | s (x : ByteArray) (hx : x.size ≤ 9223372036854775807) : Sh .s [.str x]
  | sl (e : K) (xs : List AV) (h1 : ∀ x, x ∈ xs → Sh e x.cells) (h2 : ∀ x, x ∈ xs → x.isAgg = e.isSt) (hl : xs.length ≤ 9223372036854775807) : Sh (.sl e) [.sl .sh xs]
  | st0 : Sh (.st []) []
  | st1 (f : K) (fs : List K) (a b : List AV) (h1 : Sh f a) (h2 : Sh (.st fs) b) : Sh (.st (f :: fs)) (a ++ b)

theorem Sh.len {k : K} {a : List AV} (h : Sh k a) : a.length = K.n k := by
  induction h with
  | st1 f fs a b h1 h2 i1 i2 => rw [List.length_append, i1, i2]; rfl
  | _ => rfl

def CV (w : World) (avs : List AV) (cs : List Value) : Prop := avs.length = cs.length ∧ ∀ (j : Nat) (c : AV), avs[j]? = some c → ∃ v, cs[j]? = some v ∧ V (lentG w) c v
theorem CV.one {w : World} {c : AV} {v : Value} (h : V (lentG w) c v) : CV w [c] [v] := ⟨rfl, fun j c' hj => by
  cases j with
  | zero => simp only [List.getElem?_cons_zero, Option.some.injEq] at hj; subst hj; exact ⟨v, rfl, h⟩
  | succ j => simp at hj⟩
theorem CV.nil {w : World} : CV w [] [] := ⟨rfl, fun j c h => by simp at h⟩
theorem CV.app {w : World} {a b : List AV} {c d : List Value} (h1 : CV w a c) (h2 : CV w b d) : CV w (a ++ b) (c ++ d) := by
  refine ⟨by rw [List.length_append, List.length_append, h1.1, h2.1], fun j x hj => ?_⟩
  by_cases hl : j < a.length
  · rw [List.getElem?_append_left hl] at hj
    obtain ⟨v, hv, hV⟩ := h1.2 j x hj
    exact ⟨v, by rw [List.getElem?_append_left (by rw [← h1.1]; exact hl)]; exact hv, hV⟩
  · rw [List.getElem?_append_right (by omega)] at hj
    obtain ⟨v, hv, hV⟩ := h2.2 _ x hj
    exact ⟨v, by rw [List.getElem?_append_right (by rw [← h1.1]; omega), ← h1.1]; exact hv, hV⟩

section
variable {H : Type} {enc : TypeId × Value → H} {P : Program} {w : World} {spare : Nat → Bool} {held : Bool}

theorem cell_spot {a : Addr} {v : Value} (h : w.cell? a = some v) : a = ⟨a.block, a.off, none⟩ := by
  obtain ⟨b, o, s⟩ := a
  unfold World.cell? at h
  split at h
  · cases s with
    | none => rfl
    | some x => simp at h
  · cases h
theorem cell_add {a : Addr} {m : Nat} {v : Value} (h : w.cell? (a.add m) = some v) : w.cell? ⟨a.block, a.off + m, none⟩ = some v := by
  unfold Addr.add at h
  split at h
  · rename_i hm
    subst hm
    rw [cell_spot h] at h
    exact h
  · exact h
theorem cells_get {a : Addr} {n : Nat} {cs : List Value} (h : w.cells? 0 a n = some cs) : cs.length = n ∧ ∀ r, r < n → w.cell? (a.add r) = cs[r]? := by
  unfold World.cells? at h
  rw [if_pos (Nat.zero_le _)] at h
  refine ⟨by simpa using mapM_some_length h, fun r hr => mapM_some_get h r r (by simp [hr])⟩
theorem add_cell {a : Addr} {m r : Nat} {v : Value} (h : w.cell? ((a.add m).add r) = some v) : w.cell? ⟨a.block, a.off + m + r, none⟩ = some v := by
  have := cell_add h
  have e : (a.add m).block = a.block ∧ (a.add m).off = a.off + m := by
    unfold Addr.add
    split
    · rename_i hm; subst hm; exact ⟨rfl, rfl⟩
    · exact ⟨rfl, rfl⟩
  rwa [e.1, e.2] at this

/-- The elements of a slice, up to some place. -/
theorem rd_elems {k : K} {e : TypeId} {a : Addr} {n len : Nat} {elems : List (DataW H × List MemPlace)} (hc : P.cellsOf e = K.n k)
    (ih : ∀ cs x, DataW.trod enc P w 0 spare held n e cs = some x → ∃ avs, CV w avs cs ∧ Sh k avs) (hl : elems.length = len)
    (he : ∀ i, i < len → (w.cells? 0 (a.add (i * P.cellsOf e)) (P.cellsOf e)).bind (DataW.trod enc P w 0 spare held n e) = elems[i]?) :
    ∀ m, m ≤ len → ∃ xs : List AV, xs.length = m ∧ (∀ x ∈ xs, Sh k x.cells ∧ x.isAgg = k.isSt ∧ x.known = true) ∧ ∀ (j : Nat) (c : AV), (flat xs)[j]? = some c → ∃ v, w.cell? ⟨a.block, a.off + j, none⟩ = some v ∧ V (lentG w) c v := by
  intro m
  induction m with
  | zero => exact fun _ => ⟨[], rfl, (fun x hx => by cases hx), fun j c h => by simp [flat] at h⟩
  | succ m im =>
    intro hm
    obtain ⟨xs, hxl, hx, hV⟩ := im (by omega)
    have hget := he m (by omega)
    rw [List.getElem?_eq_getElem (by omega), Option.bind_eq_some_iff] at hget
    obtain ⟨cs, hcs, ht⟩ := hget
    obtain ⟨avs, hcv, hsh⟩ := ih cs _ ht
    obtain ⟨c1, c2⟩ := cells_get hcs
    have hfl : (flat xs).length = m * K.n k := by
      rw [flat_len (sz := K.n k) fun x h => (hx x h).1.len, hxl]
    have key : ∀ x : AV, x.cells = avs → x.isAgg = k.isSt → x.known = true → ∃ xs : List AV, xs.length = m + 1 ∧ (∀ x ∈ xs, Sh k x.cells ∧ x.isAgg = k.isSt ∧ x.known = true) ∧ ∀ (j : Nat) (c : AV), (flat xs)[j]? = some c → ∃ v, w.cell? ⟨a.block, a.off + j, none⟩ = some v ∧ V (lentG w) c v := by
      intro x hxc hxa hxk
      refine ⟨xs ++ [x], by simp [hxl], fun y hy => ?_, fun j c hj => ?_⟩
      · rcases List.mem_append.1 hy with hy | hy
        · exact hx y hy
        · simp only [List.mem_singleton] at hy; subst hy; exact ⟨by rw [hxc]; exact hsh, hxa, hxk⟩
      · have hf : flat (xs ++ [x]) = flat xs ++ avs := by simp [flat, hxc]
        rw [hf] at hj
        by_cases hjl : j < (flat xs).length
        · rw [List.getElem?_append_left hjl] at hj; exact hV j c hj
        · rw [List.getElem?_append_right (by omega)] at hj
          obtain ⟨v, hv, hVc⟩ := hcv.2 _ c hj
          have hr : j - (flat xs).length < P.cellsOf e := by
            have := (List.getElem?_eq_some_iff.1 hv).1
            omega
          refine ⟨v, ?_, hVc⟩
          have := c2 _ hr
          rw [hv] at this
          have h2 := add_cell this
          rw [hc, ← hfl] at h2
          rwa [show a.off + (flat xs).length + (j - (flat xs).length) = a.off + j by omega] at h2
    cases hk : k with
    | st fs =>
      subst hk
      exact key (.agg avs) rfl rfl rfl
    | i _ => subst hk; cases hsh; exact key (.int _ _) rfl rfl rfl
    | b => subst hk; cases hsh; exact key (.bool _) rfl rfl rfl
    | s => subst hk; cases hsh; exact key (.str _) rfl rfl rfl
    | sl _ => subst hk; cases hsh; exact key (.sl .sh _) rfl rfl rfl

theorem rd_fields {g : TypeId → Option K} {n : Nat} (ih : ∀ t k, g t = some k → ∀ cs x, DataW.trod enc P w 0 spare held n t cs = some x → ∃ avs, CV w avs cs ∧ Sh k avs) (cs : List Value) :
    ∀ (l : List Field) (off : Nat) (ks : List K), kindsW P g off l = some ks → (∀ fd ∈ l, ∃ x, DataW.trod enc P w 0 spare held n fd.type ((cs.drop fd.offset).take (P.cellsOf fd.type)) = some x) →
      ∃ avs, CV w avs ((cs.drop off).take (K.nL ks)) ∧ Sh (.st ks) avs
  | [], off, ks, h, _ => by
    simp only [kindsW, Option.some.injEq] at h
    subst h
    exact ⟨[], by simp only [K.nL, List.take_zero]; exact CV.nil, .st0⟩
  | fd :: r, off, ks, h, hx => by
    simp only [kindsW] at h
    split at h
    · rename_i k hk
      split at h
      · rename_i hc
        obtain ⟨hc1, hc2⟩ := hc
        rw [Option.map_eq_some_iff] at h
        obtain ⟨ks', hks, rfl⟩ := h
        obtain ⟨x, ht⟩ := hx fd List.mem_cons_self
        obtain ⟨a1, v1, s1⟩ := ih _ _ hk _ _ ht
        obtain ⟨a2, v2, s2⟩ := rd_fields ih cs r _ ks' hks fun f hf => hx f (List.mem_cons_of_mem _ hf)
        rw [hc1, hc2] at v1
        refine ⟨a1 ++ a2, ?_, .st1 _ _ _ _ s1 s2⟩
        rw [show K.nL (k :: ks') = K.n k + K.nL ks' from rfl, List.take_add, List.drop_drop]
        exact v1.app v2
      · cases h
    · cases h

theorem rd : ∀ (f : Nat) (t : TypeId) (k : K), kindOf P f t = some k → ∀ n cs x, DataW.trod enc P w 0 spare held n t cs = some x → ∃ avs, CV w avs cs ∧ Sh k avs := by
  intro f
  induction f with
  | zero => intro t k h; cases h
  | succ f ih =>
    intro t k h n cs x ht
    simp only [kindOf] at h
    split at h
    · rename_i hu
      cases h
      obtain ⟨b, rfl, -⟩ := DataW.trod_bool hu ht
      exact ⟨_, CV.one (.bool b), .b b⟩
    · rename_i ik hu
      cases h
      obtain ⟨m, rfl, -, hw⟩ := DataW.trod_int hu ht
      exact ⟨_, CV.one (.int _ m), .i _ m hw⟩
    · rename_i hu
      cases h
      obtain ⟨s, rfl, -, hs⟩ := DataW.trod_string hu ht
      exact ⟨_, CV.one (.str s), .s s hs⟩
    · rename_i e hu
      split at h
      · rename_i ke hke
        split at h
        · rename_i hc
          cases h
          rcases DataW.trod_slice hu ht with ⟨rfl, -⟩ | ⟨a, len, cap, elems, rest, n', rfl, rfl, -, -, hl, hm, hel, he, -⟩
          · exact ⟨_, CV.one (.sl .sh [] none 0 0 0 0 0 (fun _ => undef) rfl (Nat.le_refl _) (fun e h => by cases h) (fun h => absurd rfl h) (fun j h => by simp [flat] at h) (fun j c h => by simp [flat] at h) (fun h => by cases h) (fun i h => by cases h)),
              .sl _ [] (fun x h => by cases h) (fun x h => by cases h) (Nat.zero_le _)⟩
          · obtain ⟨xs, hxl, hx, hV⟩ := rd_elems hc.1 (fun cs x => ih e ke hke n' cs x) hel he len (Nat.le_refl _)
            refine ⟨_, CV.one (.sl .sh xs (some a) len cap (K.n ke) a.block a.off (fun j => (w.cell? ⟨a.block, a.off + j, none⟩).getD undef) hxl.symm (by omega) (fun e he => ⟨(hx e he).2.2, (hx e he).1.len⟩) (fun hne => ?_) (fun j hj => ?_) (fun j c hj => ?_) (fun h => by cases h) (fun i h => by cases h)),
              .sl _ xs (fun x h => (hx x h).1) (fun x h => (hx x h).2.1) (by rw [hxl]; exact Nat.le_trans hl hm)⟩
            · have h0 : 0 < len := by
                rcases Nat.eq_zero_or_pos len with h0 | h0
                · rw [h0] at hxl; exact absurd (List.length_eq_zero_iff.1 hxl) hne
                · exact h0
              have hget := he 0 h0
              rw [List.getElem?_eq_getElem (by omega), Option.bind_eq_some_iff] at hget
              obtain ⟨cs, hcs, -⟩ := hget
              obtain ⟨c1, c2⟩ := cells_get hcs
              have := c2 0 (by omega)
              rw [List.getElem?_eq_getElem (by omega), Nat.zero_mul] at this
              have h2 : w.cell? a = some cs[0] := by simpa [Addr.add] using this
              rw [← cell_spot h2]
            · obtain ⟨v, hv, -⟩ := hV j _ (List.getElem?_eq_getElem hj)
              show w.cell? _ = _
              rw [hv]; rfl
            · obtain ⟨v, hv, hVc⟩ := hV j c hj
              rw [hv]; exact hVc
        · cases h
      · cases h
    · rename_i fs hu
      split at h
      · rename_i ks hks
        split at h
        · rename_i hc
          cases h
          obtain ⟨xs, n', rfl, -, hlen, hxl, hf⟩ := DataW.trod_struct hu ht
          obtain ⟨avs, hv, hs⟩ := rd_fields (n := n') (fun t k hk cs x => ih t k hk n' cs x) cs fs.toList 0 ks hks fun fd hfd => by
            obtain ⟨i, hi⟩ := List.getElem?_of_mem hfd
            have hi' : fs[i]? = some fd := by simpa using hi
            have hil : i < xs.length := by
              have := (Array.getElem?_eq_some_iff.1 hi').1
              omega
            exact ⟨xs[i], by rw [hf i fd hi', List.getElem?_eq_getElem hil]⟩
          rw [List.drop_zero, ← hc, ← hlen, List.take_length] at hv
          exact ⟨avs, hv, hs⟩
        · cases h
      · cases h
    · cases h
end
end Go.AM

namespace Go.Proofs.Ytnehpfaafgnnpaa
open Go.AM Go.AM.AV

theorem inv_i {k : IntKind} {a : List AV} (h : Sh (.i k) a) : ∃ n, a = [.int k n] := by cases h; exact ⟨_, rfl⟩
theorem inv_b {a : List AV} (h : Sh .b a) : ∃ x, a = [.bool x] := by cases h; exact ⟨_, rfl⟩
theorem inv_sl {e : K} {a : List AV} (h : Sh (.sl e) a) : ∃ xs, a = [.sl .sh xs] ∧ (∀ x, x ∈ xs → Sh e x.cells) ∧ (∀ x, x ∈ xs → x.isAgg = e.isSt) ∧ xs.length ≤ 9223372036854775807 := by
  cases h with
  | sl _ xs h1 h2 hl => exact ⟨xs, rfl, h1, h2, hl⟩
theorem inv_0 {a : List AV} (h : Sh (.st []) a) : a = [] := by cases h; rfl
theorem inv_1 {f : K} {fs : List K} {c : List AV} (h : Sh (.st (f :: fs)) c) : ∃ a b, c = a ++ b ∧ Sh f a ∧ Sh (.st fs) b := by
  cases h with
  | st1 _ _ a b h1 h2 => exact ⟨a, b, rfl, h1, h2⟩

abbrev kI : K := .i .i64
abbrev ptK : K := .st [kI, kI]
abbrev clrK : K := .st [kI, kI, kI, kI]
abbrev mtK : K := .st [kI, kI, kI, kI, kI, kI]
abbrev pthK : K := .st [.sl kI, .sl ptK]
abbrev pntK : K := .st [kI, clrK, clrK, ptK, ptK]
abbrev ndK : K := .st [kI, kI, .b, mtK, pthK, .b, kI, .sl kI, pntK, kI, kI, pthK]
abbrev scK : K := .st [.sl ndK]

theorem sh_pt {a : List AV} (h : Sh ptK a) : ∃ p : Pt, a = [i64 p.x, i64 p.y] := by
  obtain ⟨_, _, rfl, h1, h⟩ := inv_1 h
  obtain ⟨_, _, rfl, h2, h⟩ := inv_1 h
  obtain rfl := inv_0 h
  obtain ⟨x, rfl⟩ := inv_i h1
  obtain ⟨y, rfl⟩ := inv_i h2
  exact ⟨⟨x, y⟩, rfl⟩
theorem sh_clr {a : List AV} (h : Sh clrK a) : ∃ c : Clr, a = [i64 c.r, i64 c.g, i64 c.b, i64 c.a] := by
  obtain ⟨_, _, rfl, h1, h⟩ := inv_1 h
  obtain ⟨_, _, rfl, h2, h⟩ := inv_1 h
  obtain ⟨_, _, rfl, h3, h⟩ := inv_1 h
  obtain ⟨_, _, rfl, h4, h⟩ := inv_1 h
  obtain rfl := inv_0 h
  obtain ⟨r, rfl⟩ := inv_i h1
  obtain ⟨g, rfl⟩ := inv_i h2
  obtain ⟨b, rfl⟩ := inv_i h3
  obtain ⟨x, rfl⟩ := inv_i h4
  exact ⟨⟨r, g, b, x⟩, rfl⟩
theorem sh_mt {a : List AV} (h : Sh mtK a) : ∃ m : Mt, a = mtC m := by
  obtain ⟨_, _, rfl, h1, h⟩ := inv_1 h
  obtain ⟨_, _, rfl, h2, h⟩ := inv_1 h
  obtain ⟨_, _, rfl, h3, h⟩ := inv_1 h
  obtain ⟨_, _, rfl, h4, h⟩ := inv_1 h
  obtain ⟨_, _, rfl, h5, h⟩ := inv_1 h
  obtain ⟨_, _, rfl, h6, h⟩ := inv_1 h
  obtain rfl := inv_0 h
  obtain ⟨a, rfl⟩ := inv_i h1
  obtain ⟨b, rfl⟩ := inv_i h2
  obtain ⟨c, rfl⟩ := inv_i h3
  obtain ⟨d, rfl⟩ := inv_i h4
  obtain ⟨e, rfl⟩ := inv_i h5
  obtain ⟨f, rfl⟩ := inv_i h6
  exact ⟨⟨a, b, c, d, e, f⟩, rfl⟩
theorem sh_ints : ∀ {xs : List AV}, (∀ x, x ∈ xs → Sh kI x.cells) → (∀ x, x ∈ xs → x.isAgg = kI.isSt) → ∃ l, xs = ints l
  | [], _, _ => ⟨[], rfl⟩
  | x :: r, h1, h2 => by
    obtain ⟨l, rfl⟩ := sh_ints (fun y hy => h1 y (List.mem_cons_of_mem _ hy)) (fun y hy => h2 y (List.mem_cons_of_mem _ hy))
    obtain ⟨n, hn⟩ := inv_i (h1 x List.mem_cons_self)
    have ha := h2 x List.mem_cons_self
    refine ⟨n :: l, ?_⟩
    cases x with
    | agg cs => cases ha
    | _ => simp only [AV.cells, List.cons.injEq, and_true] at hn; rw [hn]; rfl
theorem sh_pts : ∀ {xs : List AV}, (∀ x, x ∈ xs → Sh ptK x.cells) → (∀ x, x ∈ xs → x.isAgg = ptK.isSt) → ∃ l, xs = pts l
  | [], _, _ => ⟨[], rfl⟩
  | x :: r, h1, h2 => by
    obtain ⟨l, rfl⟩ := sh_pts (fun y hy => h1 y (List.mem_cons_of_mem _ hy)) (fun y hy => h2 y (List.mem_cons_of_mem _ hy))
    obtain ⟨p, hp⟩ := sh_pt (h1 x List.mem_cons_self)
    have ha := h2 x List.mem_cons_self
    refine ⟨p :: l, ?_⟩
    cases x with
    | agg cs => simp only [AV.cells] at hp; rw [hp]; rfl
    | _ => cases ha
theorem sh_pth {a : List AV} (h : Sh pthK a) : ∃ p : Pth, a = pthC p ∧ p.verbs.length ≤ 9223372036854775807 ∧ p.points.length ≤ 9223372036854775807 := by
  obtain ⟨_, _, rfl, h1, h⟩ := inv_1 h
  obtain ⟨_, _, rfl, h2, h⟩ := inv_1 h
  obtain rfl := inv_0 h
  obtain ⟨xs, rfl, a1, a2, a3⟩ := inv_sl h1
  obtain ⟨ys, rfl, b1, b2, b3⟩ := inv_sl h2
  obtain ⟨l, rfl⟩ := sh_ints a1 a2
  obtain ⟨m, rfl⟩ := sh_pts b1 b2
  exact ⟨⟨l, m⟩, rfl, by simpa [ints] using a3, by simpa [pts] using b3⟩
theorem sh_pnt {a : List AV} (h : Sh pntK a) : ∃ p : Pnt, a = pntC p := by
  obtain ⟨_, _, rfl, h1, h⟩ := inv_1 h
  obtain ⟨_, _, rfl, h2, h⟩ := inv_1 h
  obtain ⟨_, _, rfl, h3, h⟩ := inv_1 h
  obtain ⟨_, _, rfl, h4, h⟩ := inv_1 h
  obtain ⟨_, _, rfl, h5, h⟩ := inv_1 h
  obtain rfl := inv_0 h
  obtain ⟨k, rfl⟩ := inv_i h1
  obtain ⟨c, rfl⟩ := sh_clr h2
  obtain ⟨d, rfl⟩ := sh_clr h3
  obtain ⟨p, rfl⟩ := sh_pt h4
  obtain ⟨q, rfl⟩ := sh_pt h5
  exact ⟨⟨k, c, d, p, q⟩, rfl⟩
theorem sh_nd {a : List AV} (h : Sh ndK a) : ∃ n : Nd, a = ndC n ∧ bgN n := by
  obtain ⟨_, _, rfl, h1, h⟩ := inv_1 h
  obtain ⟨_, _, rfl, h2, h⟩ := inv_1 h
  obtain ⟨_, _, rfl, h3, h⟩ := inv_1 h
  obtain ⟨_, _, rfl, h4, h⟩ := inv_1 h
  obtain ⟨_, _, rfl, h5, h⟩ := inv_1 h
  obtain ⟨_, _, rfl, h6, h⟩ := inv_1 h
  obtain ⟨_, _, rfl, h7, h⟩ := inv_1 h
  obtain ⟨_, _, rfl, h8, h⟩ := inv_1 h
  obtain ⟨_, _, rfl, h9, h⟩ := inv_1 h
  obtain ⟨_, _, rfl, h10, h⟩ := inv_1 h
  obtain ⟨_, _, rfl, h11, h⟩ := inv_1 h
  obtain ⟨_, _, rfl, h12, h⟩ := inv_1 h
  obtain rfl := inv_0 h
  obtain ⟨id, rfl⟩ := inv_i h1
  obtain ⟨par, rfl⟩ := inv_i h2
  obtain ⟨g, rfl⟩ := inv_b h3
  obtain ⟨m, rfl⟩ := sh_mt h4
  obtain ⟨p, rfl, p1, p2⟩ := sh_pth h5
  obtain ⟨e, rfl⟩ := inv_b h6
  obtain ⟨w, rfl⟩ := inv_i h7
  obtain ⟨ds, rfl, a1, a2, a3⟩ := inv_sl h8
  obtain ⟨l, rfl⟩ := sh_ints a1 a2
  obtain ⟨pn, rfl⟩ := sh_pnt h9
  obtain ⟨mo, rfl⟩ := inv_i h10
  obtain ⟨fa, rfl⟩ := inv_i h11
  obtain ⟨c, rfl, c1, c2⟩ := sh_pth h12
  exact ⟨⟨id, par, g, m, p, e, w, l, pn, mo, fa, c⟩, rfl, ⟨p1, p2, by simpa [ints] using a3, c1, c2⟩⟩
theorem sh_nds : ∀ {xs : List AV}, (∀ x, x ∈ xs → Sh ndK x.cells) → (∀ x, x ∈ xs → x.isAgg = ndK.isSt) → ∃ l, xs = nds l ∧ ∀ n ∈ l, bgN n
  | [], _, _ => ⟨[], rfl, fun n h => by cases h⟩
  | x :: r, h1, h2 => by
    obtain ⟨l, rfl, hl⟩ := sh_nds (fun y hy => h1 y (List.mem_cons_of_mem _ hy)) (fun y hy => h2 y (List.mem_cons_of_mem _ hy))
    obtain ⟨n, hn, hb⟩ := sh_nd (h1 x List.mem_cons_self)
    have ha := h2 x List.mem_cons_self
    refine ⟨n :: l, ?_, fun m hm => ?_⟩
    · cases x with
      | agg cs => simp only [AV.cells] at hn; rw [hn]; rfl
      | _ => cases ha
    · rcases List.mem_cons.1 hm with rfl | hm
      · exact hb
      · exact hl m hm
theorem sh_sc {a : List AV} (h : Sh scK a) : ∃ l : List Nd, a = [.sl .sh (nds l)] ∧ l.length ≤ 9223372036854775807 ∧ ∀ n ∈ l, bgN n := by
  obtain ⟨_, _, rfl, h1, h⟩ := inv_1 h
  obtain rfl := inv_0 h
  obtain ⟨xs, rfl, a1, a2, a3⟩ := inv_sl h1
  obtain ⟨l, rfl, hl⟩ := sh_nds a1 a2
  exact ⟨l, rfl, by simpa [nds] using a3, hl⟩

theorem kind24 : kindOf Try.prog 8 24 = some scK := by kernel_rfl
/-- An argument that is a scene. -/
theorem read_sc {H : Type} {enc : TypeId × Value → H} {W : World} {spare : Nat → Bool} {held : Bool} {arr : Array Value} {d : DataW H} {p : List MemPlace} (h : DataW.Trod enc Try.prog W 0 spare held 24 (.agg arr) d p) :
    ∃ l : List Nd, V (lentG W) (scE l) (.agg arr) ∧ l.length ≤ 9223372036854775807 ∧ ∀ n ∈ l, bgN n := by
  obtain ⟨fuel, hf⟩ := h
  obtain ⟨avs, hv, hs⟩ := rd 8 24 scK kind24 fuel _ _ hf
  obtain ⟨l, rfl, h1, h2⟩ := sh_sc hs
  refine ⟨l, .agg _ arr ?_ fun j c hc => ?_, h1, h2⟩
  · have := hv.1
    simpa [Value.cells] using this.symm
  · obtain ⟨v, hv', hV⟩ := hv.2 j c hc
    have : arr[j]? = some v := by simpa [Value.cells] using hv'
    rw [Array.getD_eq_getD_getElem?, this]
    exact hV
end Go.Proofs.Ytnehpfaafgnnpaa
