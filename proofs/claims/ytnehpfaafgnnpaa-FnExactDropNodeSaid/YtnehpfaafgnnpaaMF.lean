/- What is lent to a call that has its memory for itself, and what comes back. What a call hands over: sealed, or in boxes. -/
import Derived.Test.YtnehpfaafgnnpaaME
set_option linter.unusedSimpArgs false
set_option linter.unusedVariables false
set_option linter.unnecessarySimpa false
namespace Go.AM
open AV Go.RowKit

theorem mapO_get {f : AV → Option AV} : ∀ {xs ys : List AV}, mapO f xs = some ys → ys.length = xs.length ∧ ∀ (j : Nat) (y : AV), ys[j]? = some y → ∃ x, xs[j]? = some x ∧ f x = some y
  | [], ys, h => by cases h; exact ⟨rfl, fun j y hj => by simp at hj⟩
  | x :: r, ys, h => by
    simp only [mapO] at h
    split at h
    · rename_i y l h1 h2
      obtain rfl := Option.some.inj h
      obtain ⟨q1, q2⟩ := mapO_get h2
      refine ⟨by simp [q1], fun j z hj => ?_⟩
      cases j with
      | zero => simp at hj; subst hj; exact ⟨x, rfl, h1⟩
      | succ j => simp at hj; simpa using q2 j z hj
    · cases h

theorem mapA_get {σ : Type} {f : AV → σ → Option (AV × σ)} {R : σ → σ → Prop} (h0 : ∀ s, R s s) (ht : ∀ a b c, R a b → R b c → R a c) (hR : ∀ x s y s', f x s = some (y, s') → R s s') :
    ∀ {xs ys : List AV} {s s' : σ}, mapA f xs s = some (ys, s') → R s s' ∧ ys.length = xs.length ∧ ∀ (j : Nat) (y : AV), ys[j]? = some y → ∃ x s1 s2, xs[j]? = some x ∧ R s s1 ∧ R s2 s' ∧ f x s1 = some (y, s2)
  | [], ys, s, s', h => by
    simp only [mapA, Option.some.injEq, Prod.mk.injEq] at h
    obtain ⟨rfl, rfl⟩ := h
    exact ⟨h0 _, rfl, fun j y hj => by simp at hj⟩
  | x :: r, ys, s, s', h => by
    simp only [mapA] at h
    split at h
    · rename_i y s1 h1
      split at h
      · rename_i l s2 h2
        simp only [Option.some.injEq, Prod.mk.injEq] at h
        obtain ⟨rfl, rfl⟩ := h
        obtain ⟨q0, q1, q2⟩ := mapA_get h0 ht hR h2
        refine ⟨ht _ _ _ (hR _ _ _ _ h1) q0, by simp [q1], fun j z hj => ?_⟩
        cases j with
        | zero => simp at hj; subst hj; exact ⟨x, s, s1, rfl, h0 _, q0, h1⟩
        | succ j =>
          simp at hj
          obtain ⟨u, t1, t2, p1, p2, p3, p4⟩ := q2 j z hj
          exact ⟨u, t1, t2, by simpa using p1, ht _ _ _ (hR _ _ _ _ h1) p2, p3, p4⟩
      · cases h
    · cases h

theorem chunk_spec {sz : Nat} {Q : AV → Prop} (hag : ∀ l, (∀ c ∈ l, Q c) → Q (.agg l)) : ∀ (n : Nat) (l : List AV), l.length = n * sz →
    flat (chunk sz n l) = l ∧ (chunk sz n l).length = n ∧ (∀ e ∈ chunk sz n l, e.known = true ∧ e.cells.length = sz) ∧ ((∀ c ∈ l, Q c) → ∀ e ∈ chunk sz n l, Q e)
  | 0, l, h => by
    have : l = [] := List.eq_nil_of_length_eq_zero (by simpa using h)
    subst this
    exact ⟨rfl, rfl, fun e he => (by cases he), fun _ e he => (by cases he)⟩
  | n + 1, l, h => by
    have h' : l.length = n * sz + sz := by rw [h, Nat.add_mul, Nat.one_mul]
    obtain ⟨q1, q2, q3, q4⟩ := chunk_spec (sz := sz) hag n (l.drop sz) (by simp; omega)
    refine ⟨?_, by simp [chunk, q2], fun e he => ?_, fun hQ e he => ?_⟩
    · simp only [chunk, flat, List.flatMap_cons]
      have : (chunk sz n (l.drop sz)).flatMap AV.cells = l.drop sz := q1
      rw [this]
      simp [AV.cells]
    · simp only [chunk, List.mem_cons] at he
      rcases he with rfl | he
      · exact ⟨rfl, by simp [AV.cells]; omega⟩
      · exact q3 e he
    · simp only [chunk, List.mem_cons] at he
      rcases he with rfl | he
      · exact hag _ fun c hc => hQ c (List.mem_of_mem_take hc)
      · exact q4 (fun c hc => hQ c (List.mem_of_mem_drop hc)) e he

theorem elems_spec {ag : Bool} {sz n : Nat} {l xs : List AV} {Q : AV → Prop} (hag : ∀ l, (∀ c ∈ l, Q c) → Q (.agg l)) (h : elems ag sz n l = some xs) (hl : l.length = n * sz) :
    flat xs = l ∧ xs.length = n ∧ (∀ e ∈ xs, e.known = true ∧ e.cells.length = sz) ∧ ((∀ c ∈ l, Q c) → ∀ e ∈ xs, Q e) := by
  unfold elems at h
  cases ag with
  | true =>
    simp only [if_true, Option.some.injEq] at h
    subst h
    exact chunk_spec hag n l hl
  | false =>
    simp only [Bool.false_eq_true, if_false] at h
    split at h
    · rename_i hc
      obtain ⟨rfl, hone⟩ := hc
      obtain rfl := Option.some.inj h
      have hcell : ∀ c ∈ l, c.cells = [c] ∧ c.known = true := fun c hc => by
        have := List.all_eq_true.1 hone c hc
        cases c <;> first | exact ⟨rfl, rfl⟩ | (simp [AV.one] at this)
      refine ⟨?_, by simpa using hl, fun e he => ⟨(hcell e he).2, by rw [(hcell e he).1]; rfl⟩, fun hQ => hQ⟩
      clear hl hone h
      induction l with
      | nil => rfl
      | cons c r ih =>
        have h1 := (hcell c (List.mem_cons_self ..)).1
        have h2 := ih fun d hd => hcell d (List.mem_cons_of_mem _ hd)
        unfold flat at h2 ⊢
        rw [List.flatMap_cons, h1, h2]; rfl
    · cases h

section
variable {P : Program} {B : Nat} {w0 : World} {G : Gh} {M : Mem} {w : World}

/-- A call in a memory of its own: all that is there stays; what comes is made anew. -/
def Solo (P : Program) (f : FuncId) (as : List AV) (r : AV) (ts : List (Nat × Nat)) : Prop :=
  ∀ w G vs, Inv w.heap.size w G ⟨[], []⟩ w → Vs G as vs → bdL 0 as = true → Calls P f vs w fun e w' => ∃ bs, CallEnds w.heap.size w 0 G r ⟨bs, ts⟩ e w'

def lentG (w : World) : Gh := { σ := fun b o => w.cell? ⟨b, o, none⟩, β := fun b o => w.cell? ⟨b, o, none⟩, ρ := fun _ => 0, τ := fun _ _ => none }

theorem lent_inv : Inv w.heap.size w (lentG w) ⟨[], []⟩ w :=
  { below := Below.refl _ _
    hB := Nat.le_refl _
    σβ := fun b o v h => h
    stab := fun b o v h => h
    box := fun i cs h => by simp at h
    boxB := fun i h => by simp at h
    boxinj := fun i j h => by simp at h
    tok := fun t n sz h => by simp at h
    tokv := fun t n blk cap sz h => by cases h
    tokinj := fun t n t' n' h h' hh => by cases hh }

theorem snapN_V (hI : Inv B w0 G M w) : ∀ (k : Nat) {x y : AV} {v : Value}, snapN k M x = some y → V G x v → V (lentG w) y v ∧ bd 0 y = true := by
  intro k
  induction k with
  | zero => intro x y v h; cases h
  | succ k ih =>
  intro x y v h hv
  have many : ∀ {xs ys : List AV} {vs : Nat → Value}, mapO (snapN k M) xs = some ys → (∀ j c, xs[j]? = some c → V G c (vs j)) → ys.length = xs.length ∧ (∀ j c, ys[j]? = some c → V (lentG w) c (vs j)) ∧ ∀ c ∈ ys, bd 0 c = true := by
    intro xs ys vs hm hV
    obtain ⟨q1, q2⟩ := mapO_get hm
    refine ⟨q1, fun j c hc => ?_, fun c hc => ?_⟩
    · obtain ⟨x, hx, hf⟩ := q2 j c hc
      exact (ih hf (hV j x hx)).1
    · obtain ⟨j, hj, rfl⟩ := List.getElem_of_mem hc
      obtain ⟨x, hx, hf⟩ := q2 j _ (List.getElem?_eq_getElem hj)
      exact (ih hf (hV j x hx)).2
  cases x with
  | int i n => simp only [snapN, Option.some.injEq] at h; subst h; obtain rfl := hv.int_inv; exact ⟨.int _ _, rfl⟩
  | bool b => simp only [snapN, Option.some.injEq] at h; subst h; obtain rfl := hv.bool_inv; exact ⟨.bool _, rfl⟩
  | str s => simp only [snapN, Option.some.injEq] at h; subst h; obtain rfl := hv.str_inv; exact ⟨.str _, rfl⟩
  | nil => simp only [snapN, Option.some.injEq] at h; subst h; cases hv; exact ⟨.nil, rfl⟩
  | sl t xs =>
    simp only [snapN] at h
    split at h
    · rename_i hd
      obtain rfl := Option.some.inj h
      have := V.er (G := G) (G' := lentG w) (fun b o u hu => hI.stab _ _ _ (hI.σβ _ _ _ hu)) hv (by simpa only [dat] using hd)
      exact ⟨by simpa only [er] using this, by simp only [bd]; exact datL_bdL _ (datL_erL _ hd)⟩
    · cases h
  | agg cs =>
    simp only [snapN, Option.map_eq_some_iff] at h
    obtain ⟨l, hl, rfl⟩ := h
    obtain ⟨arr, rfl, h1, h2⟩ := hv.agg_inv
    obtain ⟨q1, q2, q3⟩ := many (vs := fun j => arr.getD j undef) hl h2
    exact ⟨.agg l arr (by omega) q2, by simp only [bd]; exact bdL_of q3⟩
  | tup cs => simp only [snapN] at h; cases h
  | fn f cs =>
    simp only [snapN, Option.map_eq_some_iff] at h
    obtain ⟨l, hl, rfl⟩ := h
    obtain ⟨arr, rfl, h1, h2⟩ := hv.fn_inv
    obtain ⟨q1, q2, q3⟩ := many (vs := fun j => arr.getD j undef) hl h2
    exact ⟨.fn f l arr (by omega) q2, by simp only [bd]; exact bdL_of q3⟩
  | adr cs =>
    simp only [snapN, Option.map_eq_some_iff] at h
    obtain ⟨l, hl, rfl⟩ := h
    obtain ⟨vs, blk, off, rfl, h1, h2⟩ := hv.adr_inv
    obtain ⟨q1, q2, q3⟩ := many (vs := vs) hl h2
    exact ⟨.adr l vs blk off (fun j hj => hI.stab _ _ _ (h1 j (by omega))) q2, by simp only [bd]; exact bdL_of q3⟩
  | ptr b o =>
    simp only [snapN] at h
    split at h
    · rename_i cs hb
      simp only [Option.map_eq_some_iff] at h
      obtain ⟨l, hl, rfl⟩ := h
      obtain rfl := hv.ptr_inv
      obtain ⟨vs, p1, p2, p3⟩ := hI.box_fun hb
      obtain ⟨q1, q2, q3⟩ := many (vs := fun j => vs (o + j)) hl (fun j c hc => by rw [List.getElem?_drop] at hc; exact p2 _ _ hc)
      refine ⟨.adr l (fun j => vs (o + j)) (G.ρ b) o (fun j hj => ?_) q2, by simp only [bd]; exact bdL_of q3⟩
      rw [q1] at hj
      simp at hj
      exact (p1 (o + j) (by omega)).1
    · cases h
  | bsl b o n sz ag =>
    simp only [snapN] at h
    split at h
    · rename_i cs hb
      split at h
      · rename_i hlen
        split at h
        · rename_i l hl
          simp only [Option.map_eq_some_iff] at h
          obtain ⟨xs, hxs, rfl⟩ := h
          obtain ⟨a, cap, rfl, hcap, ha⟩ := hv.bsl_inv
          obtain ⟨vs, p1, p2, p3⟩ := hI.box_fun hb
          obtain ⟨q1, q2, q3⟩ := many (vs := fun j => vs (o + j)) hl (fun j c hc => by
            rw [List.getElem?_take] at hc
            split at hc
            · rw [List.getElem?_drop] at hc; exact p2 _ _ hc
            · cases hc)
          have hll : l.length = n * sz := by rw [q1]; simp; omega
          obtain ⟨e1, e2, e3, e4⟩ := elems_spec (Q := fun c => bd 0 c = true) (fun l hl => by simp only [bd]; exact bdL_of hl) hxs hll
          refine ⟨.sl .sh xs a n cap sz (G.ρ b) o (fun j => vs (o + j)) e2.symm (by omega) e3 (fun hne => ha ?_) (fun j hj => ?_) (fun j c hc => ?_) (fun h => by cases h) (fun i h => by cases h), ?_⟩
          · rw [← e2]; exact List.length_pos_iff.2 hne
          · rw [e1] at hj
            exact (p1 (o + j) (by omega)).1
          · rw [e1] at hc; exact q2 j c hc
          · simp only [bd]; exact bdL_of (e4 q3)
        · cases h
      · cases h
    · cases h
  | und => simp only [snapN] at h; cases h
  | any => simp only [snapN] at h; cases h

theorem lent_args (hI : Inv B w0 G M w) {xs ys : List AV} {vs : Array Value} (h : snapL M xs = some ys) (hV : Vs G xs vs) : Vs (lentG w) ys vs ∧ bdL 0 ys = true := by
  obtain ⟨q1, q2⟩ := mapO_get h
  refine ⟨⟨by rw [q1]; exact hV.1, fun j y hj => ?_⟩, bdL_of fun y hy => ?_⟩
  · obtain ⟨x, hx, hf⟩ := q2 j y hj
    exact (snapN_V hI 6 hf (hV.2 j x hx)).1
  · obtain ⟨j, hj, rfl⟩ := List.getElem_of_mem hy
    obtain ⟨x, hx, hf⟩ := q2 j _ (List.getElem?_eq_getElem hj)
    exact (snapN_V hI 6 hf (hV.2 j x hx)).2

/-! ### A value of the call's own -/
theorem ownL_mem : ∀ {cs : List AV}, ownL cs = true → ∀ c ∈ cs, own c = true
  | [], _, c, h => by cases h
  | x :: r, hb, c, h => by
    simp only [ownL, Bool.and_eq_true] at hb
    cases h with
    | head => exact hb.1
    | tail _ h => exact ownL_mem hb.2 c h
theorem ownL_of : ∀ {cs : List AV}, (∀ c ∈ cs, own c = true) → ownL cs = true
  | [], _ => rfl
  | x :: r, h => by
    simp only [ownL, Bool.and_eq_true]
    exact ⟨h x (List.mem_cons_self ..), ownL_of fun c hc => h c (List.mem_cons_of_mem _ hc)⟩
theorem own_cells {v : AV} (h : own v = true) : ∀ c ∈ v.cells, own c = true := by
  intro c hc
  cases v <;> simp only [AV.cells, List.mem_singleton] at hc <;> first | (subst hc; exact h) | exact ownL_mem (by simpa only [own] using h) c hc
theorem own_flat {xs : List AV} (h : ownL xs = true) : ∀ c ∈ flat xs, own c = true := by
  intro c hc
  obtain ⟨e, he, hc⟩ := List.mem_flatMap.1 hc
  exact own_cells (ownL_mem h e he) c hc
theorem own_sl {t : Tok} {xs : List AV} (h : own (.sl t xs) = true) : xs = [] ∨ (∃ i, t = .ow i) ∧ ownL xs = true := by
  cases t with
  | ow i => exact .inr ⟨⟨i, rfl⟩, by simpa only [own] using h⟩
  | sh => cases xs with
    | nil => exact .inl rfl
    | cons x r => simp [own] at h
  | nl => cases xs with
    | nil => exact .inl rfl
    | cons x r => simp [own] at h

mutual
theorem own_dat : ∀ v : AV, own v = true → dat v = true
  | .int .., _ => rfl
  | .bool _, _ => rfl
  | .str _, _ => rfl
  | .nil, _ => rfl
  | .sl (.ow t) xs, h => by simp only [own, dat] at h ⊢; exact ownL_datL xs h
  | .sl .sh [], _ => rfl
  | .sl .nl [], _ => rfl
  | .sl .sh (_ :: _), h => by simp [own] at h
  | .sl .nl (_ :: _), h => by simp [own] at h
  | .agg cs, h => by simp only [own, dat] at h ⊢; exact ownL_datL cs h
  | .tup cs, h => by simp only [own, dat] at h ⊢; exact ownL_datL cs h
  | .ptr .., h => by simp [own] at h
  | .adr _, h => by simp [own] at h
  | .fn .., h => by simp [own] at h
  | .bsl .., h => by simp [own] at h
  | .und, h => by simp [own] at h
  | .any, h => by simp [own] at h
theorem ownL_datL : ∀ cs : List AV, ownL cs = true → datL cs = true
  | [], _ => rfl
  | c :: r, h => by
    simp only [ownL, datL, Bool.and_eq_true] at h ⊢
    exact ⟨own_dat c h.1, ownL_datL r h.2⟩
end

/-- What is known of the arrays from block s on carries a value of the call's own over; its tokens are moved on. -/
theorem V.ownShift {G G' : Gh} {s k : Nat} (hσ : ∀ b o v, s ≤ b → G.σ b o = some v → G'.σ b o = some v) (hτ : ∀ t l h, G.τ t l = some h → s ≤ h.1 ∧ G'.τ (t + k) l = some h) {v : AV} {x : Value} (h : V G v x) : own v = true → V G' (AV.shift k v) x := by
  induction h with
  | int k m => intro _; exact .int k m
  | bool b => intro _; exact .bool b
  | str s => intro _; exact .str s
  | nil => intro _; exact .nil
  | ptr b o => intro hb; simp [own] at hb
  | adr cs vs blk off hβ hv ih => intro hb; simp [own] at hb
  | sl t xs a len cap sz blk off vs hlen hcap hsz ha hσ1 hv hnl how ih =>
    intro hb
    have hf : flat (shiftL k xs) = (flat xs).map (AV.shift k) := by rw [shiftL_eq, flat_shift]
    have hL : (shiftL k xs).length = xs.length := by rw [shiftL_eq, List.length_map]
    have main : ∀ t', (t' = .nl → t = .nl) → (∀ i, t' = .ow i → ∃ j, i = j + k ∧ t = .ow j) → V G' (.sl t' (shiftL k xs)) (.slice a len cap) := by
      intro t' h1 h2
      refine .sl t' (shiftL k xs) a len cap sz blk off vs (by rw [hlen, hL]) (by rw [hL]; exact hcap) ?_ ?_ ?_ ?_ (fun h => hnl (h1 h)) ?_
      · intro e he
        rw [shiftL_eq] at he
        obtain ⟨e', he', rfl⟩ := List.mem_map.1 he
        exact ⟨by rw [known_shift]; exact (hsz e' he').1, by rw [cells_shift, List.length_map]; exact (hsz e' he').2⟩
      · intro hne; exact ha (by intro h0; apply hne; rw [shiftL_eq, h0]; rfl)
      · intro j hj
        rw [hf, List.length_map] at hj
        rcases own_sl hb with rfl | ⟨⟨i, hi⟩, _⟩
        · simp [flat] at hj
        · obtain ⟨-, -, c, q3, -⟩ := how i hi
          exact hσ _ _ _ (hτ _ _ _ q3).1 (hσ1 j hj)
      · intro j c hc
        rw [hf, List.getElem?_map] at hc
        cases hq : (flat xs)[j]? with
        | none => rw [hq] at hc; cases hc
        | some q =>
          rw [hq] at hc
          obtain rfl := Option.some.inj hc
          refine ih j q hq ?_
          rcases own_sl hb with rfl | ⟨_, hx⟩
          · simp [flat] at hq
          · exact own_flat hx q (getElem?_mem' hq)
      · intro i hi
        obtain ⟨j, rfl, hj⟩ := h2 i hi
        obtain ⟨q1, q2, c, q3, q4⟩ := how j hj
        exact ⟨q1, q2, c, by rw [hL]; exact (hτ _ _ _ q3).2, q4⟩
    cases t with
    | sh => exact main .sh (fun h => by cases h) (fun i h => by cases h)
    | nl => exact main .nl (fun _ => rfl) (fun i h => by cases h)
    | ow i => exact main (.ow (i + k)) (fun h => by cases h) (fun j h => by cases h; exact ⟨i, rfl, rfl⟩)
  | agg cs arr hl hv ih =>
    intro hb
    simp only [own] at hb
    refine .agg (shiftL k cs) arr (by rw [shiftL_eq, List.length_map]; exact hl) fun j c hc => ?_
    rw [shiftL_eq, List.getElem?_map] at hc
    cases hq : cs[j]? with
    | none => rw [hq] at hc; cases hc
    | some q => rw [hq] at hc; obtain rfl := Option.some.inj hc; exact ih j q hq (ownL_mem hb q (getElem?_mem' hq))
  | tup cs arr hl hv ih =>
    intro hb
    simp only [own] at hb
    refine .tup (shiftL k cs) arr (by rw [shiftL_eq, List.length_map]; exact hl) fun j c hc => ?_
    rw [shiftL_eq, List.getElem?_map] at hc
    cases hq : cs[j]? with
    | none => rw [hq] at hc; cases hc
    | some q => rw [hq] at hc; obtain rfl := Option.some.inj hc; exact ih j q hq (ownL_mem hb q (getElem?_mem' hq))
  | fn f cs arr hl hv ih => intro hb; simp [own] at hb
  | bsl b o m sz ag a cap hcap ha => intro hb; simp [own] at hb
  | und => intro hb; simp [own] at hb
  | any v => intro hb; simp [own] at hb

/-- Behind the call: what was lent is taken back, what has come is the caller's. -/
def backG (G G1 : Gh) (s k : Nat) : Gh :=
  { σ := fun b o => if b < s then G.σ b o else G1.σ b o, β := fun b o => if b < s then G.β b o else G1.β b o, ρ := G.ρ, τ := fun t l => if t < k then G.τ t l else G1.τ (t - k) l }

theorem back_inv (hI : Inv B w0 G M w) {G1 : Gh} {w' : World} {bs : List (List AV)} {ts : List (Nat × Nat)} (h1 : Inv w.heap.size w G1 ⟨bs, ts⟩ w') :
    Inv B w0 (backG G G1 w.heap.size M.toks.length) ⟨M.boxes, M.toks ++ ts⟩ w' ∧ Goes B M.boxes.length G (backG G G1 w.heap.size M.toks.length) := by
  have hβlt : ∀ b o v, G.β b o = some v → b < w.heap.size := fun b o v h => cell_lt (hI.stab _ _ _ h)
  have hτlt : ∀ t l h, G.τ t l = some h → t < M.toks.length := fun t l h hh => by
    obtain ⟨b, c, s⟩ := h
    obtain ⟨⟨m, s0, hm, -⟩, -⟩ := hI.tokv t l b c s hh
    exact getElem?_lt hm
  have hBs := hI.hB
  have hle : G.le M.boxes.length (backG G G1 w.heap.size M.toks.length) := by
    refine ⟨fun b o v h => ?_, fun b o v h => ?_, fun _ _ => rfl, fun t l h hh => ?_⟩
    · simp only [backG]; rw [if_pos (hβlt _ _ _ (hI.σβ _ _ _ h))]; exact h
    · simp only [backG]; rw [if_pos (hβlt _ _ _ h)]; exact h
    · simp only [backG]; rw [if_pos (hτlt _ _ _ hh)]; exact hh
  have hI2 := hI.of_below h1.below
  refine ⟨⟨hI2.below, hI2.hB, ?_, ?_, ?_, ?_, hI.boxinj, ?_, ?_, ?_⟩, ⟨hle, fun b hb => ?_, fun b hb => ?_⟩⟩
  · intro b o v h
    simp only [backG] at h ⊢
    split at h
    · rename_i hb; rw [if_pos hb]; exact hI.σβ _ _ _ h
    · rename_i hb; rw [if_neg hb]; exact h1.σβ _ _ _ h
  · intro b o v h
    simp only [backG] at h
    split at h
    · exact hI2.stab _ _ _ h
    · exact h1.stab _ _ _ h
  · intro i cs hi
    obtain ⟨q1, q2⟩ := hI2.box i cs hi
    have hil : i < M.boxes.length := getElem?_lt hi
    refine ⟨q1, fun j c hj => ?_⟩
    obtain ⟨x, p1, p2, p3⟩ := q2 j c hj
    exact ⟨x, p1, p2, p3.mono hle (bd_le (by omega) c (bdL_mem q1 c (getElem?_mem' hj)))⟩
  · intro i hi
    obtain ⟨q1, q2, q3⟩ := hI2.boxB i hi
    refine ⟨q1, q2, fun j => ?_⟩
    simp only [backG]
    rw [if_pos (hI.boxB i hi).2.1]
    exact q3 j
  · intro t n sz ht hz
    simp only [backG] at ht ⊢
    rw [List.getElem?_append] at ht
    by_cases htk : t < M.toks.length
    · rw [if_pos htk] at ht
      obtain ⟨blk, cap, q1, q2, q3⟩ := hI2.tok t n sz ht hz
      refine ⟨blk, cap, by rw [if_pos htk]; exact q1, q2, fun o ho => ⟨?_, (q3 o ho).2⟩⟩
      rw [if_pos (hI.tokv t n blk _ sz q1).2.2.1]
      exact (q3 o ho).1
    · rw [if_neg htk] at ht
      obtain ⟨blk, cap, q1, q2, q3⟩ := h1.tok (t - M.toks.length) n sz ht hz
      refine ⟨blk, cap, by rw [if_neg htk]; exact q1, q2, fun o ho => ⟨?_, (q3 o ho).2⟩⟩
      have := (h1.tokv _ n blk _ sz q1).2.1
      rw [if_neg (by omega)]
      exact (q3 o ho).1
  · intro t n blk cap sz ht
    simp only [backG] at ht
    split at ht
    · rename_i htk
      obtain ⟨⟨m, s0, p1, p0, p2⟩, p3, p4, p5⟩ := hI2.tokv t n blk cap sz ht
      exact ⟨⟨m, s0, by rw [List.getElem?_append_left htk]; exact p1, p0, p2⟩, p3, p4, p5⟩
    · rename_i htk
      obtain ⟨⟨m, s0, p1, p0, p2⟩, p3, p4, -, p6⟩ := h1.tokv _ n blk cap sz ht
      refine ⟨⟨m, s0, by rw [List.getElem?_append_right (by omega)]; exact p1, p0, p2⟩, by omega, p4, fun i hi => ?_, p6⟩
      have := (hI.boxB i hi).2.1
      show G.ρ i ≠ blk
      omega
  · intro t n t' n' h h' hh hh' hb
    simp only [backG] at hh hh'
    split at hh <;> split at hh'
    · exact hI.tokinj _ _ _ _ _ _ hh hh' hb
    · exfalso
      obtain ⟨b1, c1, s1⟩ := h
      obtain ⟨b2, c2, s2⟩ := h'
      have := (hI.tokv _ _ _ _ _ hh).2.2.1
      have := (h1.tokv _ _ _ _ _ hh').2.1
      simp only at hb
      omega
    · exfalso
      obtain ⟨b1, c1, s1⟩ := h
      obtain ⟨b2, c2, s2⟩ := h'
      have := (hI.tokv _ _ _ _ _ hh').2.2.1
      have := (h1.tokv _ _ _ _ _ hh).2.1
      simp only at hb
      omega
    · have := h1.tokinj _ _ _ _ _ _ hh hh' hb
      omega
  · funext o
    simp only [backG]
    rw [if_pos (by omega)]
  · funext o
    simp only [backG]
    rw [if_pos (by omega)]

theorem Solo.toks {G1 : Gh} {w' : World} {bs : List (List AV)} {ts : List (Nat × Nat)} (h1 : Inv w.heap.size w G1 ⟨bs, ts⟩ w') : ∀ t l h, G1.τ t l = some h → w.heap.size ≤ h.1 := fun t l h hh => by
  obtain ⟨b, c, s⟩ := h
  exact (h1.tokv _ _ _ _ _ hh).2.1

theorem solo_own {f : FuncId} {as : List AV} {r : AV} {ts : List (Nat × Nat)} (hS : Solo P f as r ts) (hd : r.own = true) (hI : Inv B w0 G M w) {xs : List AV} {vs : Array Value} (hs : snapL M xs = some as) (hV : Vs G xs vs) :
    Calls P f vs w (CallEnds B w0 M.boxes.length G (r.shift M.toks.length) ⟨M.boxes, M.toks ++ ts⟩) := by
  obtain ⟨h1, h2⟩ := lent_args hI hs hV
  refine (hS w _ vs lent_inv h1 h2).mono ?_
  rintro e w' ⟨bs, v, G1, rfl, g1, g2, g3, g4, g5⟩
  obtain ⟨q1, q2⟩ := back_inv hI g2
  refine ⟨v, _, rfl, q2, q1, ?_, dat_bd _ (dat_shift _ _ (own_dat _ hd)), Nat.le_refl _⟩
  refine V.ownShift (G := G1) (G' := backG G G1 w.heap.size M.toks.length) (s := w.heap.size) (fun b o u hb hu => ?_) (fun t l h hh => ⟨Solo.toks g2 t l h hh, ?_⟩) g3 hd
  · show (if b < w.heap.size then _ else _) = _
    rw [if_neg (by omega)]; exact hu
  · show (if t + M.toks.length < M.toks.length then _ else _) = _
    rw [if_neg (by omega), Nat.add_sub_cancel]; exact hh

/-- The memory of the call is let go of. -/
theorem Inv.bare {bs : List (List AV)} {ts : List (Nat × Nat)} (h : Inv B w0 G ⟨bs, ts⟩ w) : Inv B w0 { G with τ := fun _ _ => none } ⟨[], []⟩ w :=
  { below := h.below
    hB := h.hB
    σβ := h.σβ
    stab := h.stab
    box := fun i cs h => by simp at h
    boxB := fun i h => by simp at h
    boxinj := fun i j h => by simp at h
    tok := fun t n sz h => by simp at h
    tokv := fun t n blk cap sz h => by cases h
    tokinj := fun t n t' n' h h' hh => by cases hh }

mutual
theorem shift_zero : ∀ v : AV, dat v = true → AV.shift 0 v = v
  | .int .., _ => rfl
  | .bool _, _ => rfl
  | .str _, _ => rfl
  | .nil, _ => rfl
  | .sl (.ow t) xs, h => by simp only [dat] at h; simp only [AV.shift, shiftL_zero xs h, Nat.add_zero]
  | .sl .sh xs, h => by simp only [dat] at h; simp only [AV.shift, shiftL_zero xs h]
  | .sl .nl xs, h => by simp only [dat] at h; simp only [AV.shift, shiftL_zero xs h]
  | .agg cs, h => by simp only [dat] at h; simp only [AV.shift, shiftL_zero cs h]
  | .tup cs, h => by simp only [dat] at h; simp only [AV.shift, shiftL_zero cs h]
  | .ptr .., _ => rfl
  | .adr _, _ => rfl
  | .fn .., _ => rfl
  | .bsl .., _ => rfl
  | .und, _ => rfl
  | .any, _ => rfl
theorem shiftL_zero : ∀ cs : List AV, datL cs = true → shiftL 0 cs = cs
  | [], _ => rfl
  | c :: r, h => by
    simp only [datL, Bool.and_eq_true] at h
    simp only [shiftL, shift_zero c h.1, shiftL_zero r h.2]
end

theorem solo_pure {f : FuncId} {as : List AV} {r : AV} {ts : List (Nat × Nat)} (hS : Solo P f as r ts) (hd : r.own = true) (hI : Inv B w0 G M w) {xs : List AV} {vs : Array Value} (hs : snapL M xs = some as) (hV : Vs G xs vs) :
    Calls P f vs w (CallEnds B w0 M.boxes.length G r.er M) := by
  obtain ⟨h1, h2⟩ := lent_args hI hs hV
  refine (hS w _ vs lent_inv h1 h2).mono ?_
  rintro e w' ⟨bs, v, G1, rfl, g1, g2, g3, g4, g5⟩
  obtain ⟨q1, q2⟩ := back_inv hI g2.bare
  have q1' : Inv B w0 (backG G { G1 with τ := fun _ _ => none } w.heap.size M.toks.length) M w' := by simpa using q1
  refine ⟨v, _, rfl, q2, q1', ?_, dat_bd _ (dat_er _ (own_dat _ hd)), Nat.le_refl _⟩
  -- first with the tokens, then without
  have hv := V.ownShift (G := G1) (G' := { σ := fun b o => if b < w.heap.size then G.σ b o else G1.σ b o, β := G1.β, ρ := G1.ρ, τ := G1.τ }) (s := w.heap.size) (k := 0) (fun b o u hb hu => by
    show (if b < w.heap.size then _ else _) = _
    rw [if_neg (by omega)]; exact hu) (fun t l h hh => ⟨Solo.toks g2 t l h hh, hh⟩) g3 hd
  have := V.er (G := { σ := fun b o => if b < w.heap.size then G.σ b o else G1.σ b o, β := G1.β, ρ := G1.ρ, τ := G1.τ }) (G' := backG G { G1 with τ := fun _ _ => none } w.heap.size M.toks.length) (fun _ _ _ h => h) hv (dat_shift _ _ (own_dat _ hd))
  rwa [shift_zero r (own_dat _ hd)] at this
end
end Go.AM

namespace Go.AM
open AV Go.RowKit

theorem distinct_spec : ∀ {l : List Nat}, distinct l = true → ∀ (i j x : Nat), l[i]? = some x → l[j]? = some x → i = j
  | [], _, i, j, x, hi, _ => by simp at hi
  | a :: r, h, i, j, x, hi, hj => by
    simp only [distinct, Bool.and_eq_true, Bool.not_eq_true', List.contains_eq_mem, decide_eq_false_iff_not] at h
    cases i with
    | zero =>
      cases j with
      | zero => rfl
      | succ j => simp at hi hj; subst hi; exact absurd (List.mem_of_getElem? hj) h.1
    | succ i =>
      cases j with
      | zero => simp at hi hj; subst hj; exact absurd (List.mem_of_getElem? hi) h.1
      | succ j => simp at hi hj; rw [distinct_spec h.2 i j x hi hj]

theorem prefix_get {α : Type} {l A : List α} (h : l <+: A) {i : Nat} {x : α} (hi : l[i]? = some x) : A[i]? = some x := by
  obtain ⟨t, rfl⟩ := h
  rw [List.getElem?_append_left (getElem?_lt hi)]; exact hi

section
variable {M1 : Mem}
def SealOk (M1 : Mem) (p : Nat × Nat × Nat) : Prop := ∃ cs, M1.boxes[p.1]? = some cs ∧ p.2.1 * p.2.2 ≤ cs.length
def SealExt (M1 : Mem) (acc acc' : List (Nat × Nat × Nat)) : Prop := ∃ l, acc' = acc ++ l ∧ ∀ p ∈ l, SealOk M1 p
theorem SealExt.refl (a : List (Nat × Nat × Nat)) : SealExt M1 a a := ⟨[], by simp, fun p hp => (by cases hp)⟩
theorem SealExt.trans (a b c : List (Nat × Nat × Nat)) (h : SealExt M1 a b) (h' : SealExt M1 b c) : SealExt M1 a c := by
  obtain ⟨l, rfl, h1⟩ := h
  obtain ⟨l', rfl, h2⟩ := h'
  exact ⟨l ++ l', by simp, fun p hp => (List.mem_append.1 hp).elim (h1 p) (h2 p)⟩
theorem SealExt.pre {a b : List (Nat × Nat × Nat)} (h : SealExt M1 a b) : a <+: b := by
  obtain ⟨l, rfl, -⟩ := h
  exact List.prefix_append _ _

theorem sealN_ext : ∀ (k : Nat) (x : AV) (acc : List (Nat × Nat × Nat)) (y : AV) (acc' : List (Nat × Nat × Nat)), sealN k M1 x acc = some (y, acc') → SealExt M1 acc acc' := by
  intro k
  induction k with
  | zero => intro x acc y acc' h; cases h
  | succ k ih =>
    intro x acc y acc' h
    have many : ∀ {xs ys s s'}, mapA (sealN k M1) xs s = some (ys, s') → SealExt M1 s s' := fun h => (mapA_get SealExt.refl SealExt.trans ih h).1
    cases x with
    | int i n => simp only [sealN, Option.some.injEq, Prod.mk.injEq] at h; rw [← h.2]; exact SealExt.refl _
    | bool b => simp only [sealN, Option.some.injEq, Prod.mk.injEq] at h; rw [← h.2]; exact SealExt.refl _
    | str s => simp only [sealN, Option.some.injEq, Prod.mk.injEq] at h; rw [← h.2]; exact SealExt.refl _
    | nil => simp only [sealN, Option.some.injEq, Prod.mk.injEq] at h; rw [← h.2]; exact SealExt.refl _
    | sl t xs => simp only [sealN, Option.some.injEq, Prod.mk.injEq] at h; rw [← h.2]; exact SealExt.refl _
    | agg cs =>
      simp only [sealN, Option.map_eq_some_iff, Prod.mk.injEq] at h
      obtain ⟨⟨l, s⟩, h1, -, rfl⟩ := h
      exact many h1
    | tup cs =>
      simp only [sealN, Option.map_eq_some_iff, Prod.mk.injEq] at h
      obtain ⟨⟨l, s⟩, h1, -, rfl⟩ := h
      exact many h1
    | bsl b o n sz ag =>
      cases n with
      | zero => simp only [sealN, Option.some.injEq, Prod.mk.injEq] at h; rw [← h.2]; exact SealExt.refl _
      | succ n =>
        simp only [sealN] at h
        split at h
        · rename_i cs hb
          split at h
          · rename_i hc
            split at h
            · rename_i l s hl
              simp only [Option.map_eq_some_iff, Prod.mk.injEq] at h
              obtain ⟨xs, h1, -, rfl⟩ := h
              exact (many hl).trans _ _ _ ⟨[(b, n + 1, sz)], rfl, fun p hp => by rw [List.mem_singleton.1 hp]; exact ⟨cs, hb, hc.2⟩⟩
            · cases h
          · cases h
        · cases h
    | _ => simp only [sealN] at h; cases h
end

section
variable {P : Program} {s : Nat} {w w' : World} {G1 : Gh} {M1 : Mem} {A : List (Nat × Nat × Nat)}

def sealG (G1 : Gh) (M1 : Mem) (w' : World) (A : List (Nat × Nat × Nat)) : Gh :=
  { σ := fun b o => if b ∈ A.map (fun p => G1.ρ p.1) then w'.cell? ⟨b, o, none⟩ else G1.σ b o
    β := fun b o => if b ∈ A.map (fun p => G1.ρ p.1) then w'.cell? ⟨b, o, none⟩ else G1.β b o
    ρ := G1.ρ
    τ := fun t l => if t < M1.toks.length then G1.τ t l else match A[t - M1.toks.length]? with
      | some p => if l = p.2.1 then some (G1.ρ p.1, none, p.2.2) else none
      | none => none }

theorem sealG_le (h1 : Inv s w G1 M1 w') (n : Nat) : G1.le n (sealG G1 M1 w' A) := by
  refine ⟨fun b o v h => ?_, fun b o v h => ?_, fun _ _ => rfl, fun t l h hh => ?_⟩
  · simp only [sealG]
    split
    · exact h1.stab _ _ _ (h1.σβ _ _ _ h)
    · exact h
  · simp only [sealG]
    split
    · exact h1.stab _ _ _ h
    · exact h
  · obtain ⟨b, c, z⟩ := h
    obtain ⟨⟨m, s0, hm, -⟩, -⟩ := h1.tokv t l b c z hh
    simp only [sealG]
    rw [if_pos (getElem?_lt hm)]; exact hh

theorem sealN_V (h1 : Inv s w G1 M1 w') : ∀ (k : Nat) (x : AV) (acc : List (Nat × Nat × Nat)) (y : AV) (acc' : List (Nat × Nat × Nat)), sealN k M1 x acc = some (y, acc') → acc' <+: A → ∀ v, V G1 x v → bd M1.boxes.length x = true → V (sealG G1 M1 w' A) y v := by
  intro k
  induction k with
  | zero => intro x acc y acc' h; cases h
  | succ k ih =>
    intro x acc y acc' h hA v hv hb
    have stay : ∀ {x' : AV}, V G1 x' v → bd M1.boxes.length x' = true → V (sealG G1 M1 w' A) x' v := fun hv hb => hv.mono (sealG_le h1 _) hb
    have many : ∀ {xs ys : List AV} {s s' : List (Nat × Nat × Nat)} {vs : Nat → Value}, mapA (sealN k M1) xs s = some (ys, s') → s' <+: A → (∀ c ∈ xs, bd M1.boxes.length c = true) → (∀ j c, xs[j]? = some c → V G1 c (vs j)) →
        ys.length = xs.length ∧ ∀ j c, ys[j]? = some c → V (sealG G1 M1 w' A) c (vs j) := by
      intro xs ys s s' vs hm hA hbx hV
      obtain ⟨-, q1, q2⟩ := mapA_get SealExt.refl SealExt.trans (sealN_ext k) hm
      refine ⟨q1, fun j c hc => ?_⟩
      obtain ⟨x, s1, s2, p1, p2, p3, p4⟩ := q2 j c hc
      exact ih x s1 c s2 p4 (p3.pre.trans hA) _ (hV j x p1) (hbx x (getElem?_mem' p1))
    cases x with
    | int i n => simp only [sealN, Option.some.injEq, Prod.mk.injEq] at h; rw [← h.1]; exact stay hv hb
    | bool b => simp only [sealN, Option.some.injEq, Prod.mk.injEq] at h; rw [← h.1]; exact stay hv hb
    | str s => simp only [sealN, Option.some.injEq, Prod.mk.injEq] at h; rw [← h.1]; exact stay hv hb
    | nil => simp only [sealN, Option.some.injEq, Prod.mk.injEq] at h; rw [← h.1]; exact stay hv hb
    | sl t xs => simp only [sealN, Option.some.injEq, Prod.mk.injEq] at h; rw [← h.1]; exact stay hv hb
    | agg cs =>
      simp only [sealN, Option.map_eq_some_iff, Prod.mk.injEq] at h
      obtain ⟨⟨l, s⟩, h2, rfl, rfl⟩ := h
      obtain ⟨arr, rfl, e1, e2⟩ := hv.agg_inv
      simp only [bd] at hb
      obtain ⟨q1, q2⟩ := many (vs := fun j => arr.getD j undef) h2 hA (bdL_mem hb) e2
      exact .agg _ _ (by simp only; omega) q2
    | tup cs =>
      simp only [sealN, Option.map_eq_some_iff, Prod.mk.injEq] at h
      obtain ⟨⟨l, s⟩, h2, rfl, rfl⟩ := h
      obtain ⟨arr, rfl, e1, e2⟩ := hv.tup_inv
      simp only [bd] at hb
      obtain ⟨q1, q2⟩ := many (vs := fun j => arr.getD j undef) h2 hA (bdL_mem hb) e2
      exact .tup _ _ (by simp only; omega) q2
    | bsl b o n sz ag =>
      cases n with
      | zero =>
        simp only [sealN, Option.some.injEq, Prod.mk.injEq] at h
        rw [← h.1]
        obtain ⟨a, cap, rfl, -, -⟩ := hv.bsl_inv
        exact .sl .sh [] a 0 cap 0 0 0 (fun _ => undef) rfl (Nat.zero_le _) (fun e he => by cases he) (fun h => absurd rfl h) (fun j hj => by simp [flat] at hj) (fun j c hc => by simp [flat] at hc) (fun h => by cases h) (fun i h => by cases h)
      | succ n =>
        simp only [sealN] at h
        split at h
        · rename_i cs hbx
          split at h
          · rename_i hc
            obtain ⟨rfl, hlen⟩ := hc
            split at h
            · rename_i l s hl
              simp only [Option.map_eq_some_iff, Prod.mk.injEq] at h
              obtain ⟨xs, hxs, rfl, rfl⟩ := h
              obtain ⟨a, cap, rfl, hcap, ha⟩ := hv.bsl_inv
              obtain ⟨vs, p1, p2, p3⟩ := h1.box_fun hbx
              have hlt := getElem?_lt hbx
              have hsA : s <+: A := (List.prefix_append _ _).trans hA
              obtain ⟨q1, q2⟩ := many (vs := vs) hl hsA (fun c hc => bd_le (by omega) c (bdL_mem p3 c (List.mem_of_mem_take hc))) (fun j c hc => by
                rw [List.getElem?_take] at hc
                split at hc
                · exact p2 _ _ hc
                · cases hc)
              have hll : l.length = (n + 1) * sz := by rw [q1]; simp; omega
              obtain ⟨e1, e2, e3, -⟩ := elems_spec (Q := fun _ => True) (fun _ _ => trivial) hxs hll
              have hget : A[s.length]? = some (b, n + 1, sz) := prefix_get hA (by simp)
              have hmem : G1.ρ b ∈ A.map (fun p => G1.ρ p.1) := List.mem_map.2 ⟨_, List.mem_of_getElem? hget, rfl⟩
              refine .sl _ xs a (n + 1) cap sz (G1.ρ b) 0 vs e2.symm (by omega) e3 (fun _ => ha (by omega)) (fun j hj => ?_) (fun j c hc => ?_) (fun h => by cases h) (fun i hi => ?_)
              · rw [e1] at hj
                simp only [sealG]
                rw [if_pos hmem, Nat.zero_add]
                exact (p1 j (by omega)).1
              · rw [e1] at hc; exact q2 j c hc
              · cases hi
                refine ⟨ha (by omega), rfl, none, ?_, fun k hk => by cases hk⟩
                simp only [sealG]
                rw [if_neg (by omega), Nat.add_sub_cancel_left, hget, e2]
                simp
            · cases h
          · cases h
        · cases h
    | _ => simp only [sealN] at h; cases h

theorem seal_inv (h1 : Inv s w G1 M1 w') (hA : ∀ p ∈ A, SealOk M1 p) (hd : distinct (A.map (·.1)) = true) : Inv s w (sealG G1 M1 w' A) ⟨[], M1.toks ++ A.map fun p => (p.2.1, 0)⟩ w' := by
  have hlt : ∀ p ∈ A, p.1 < M1.boxes.length := fun p hp => by obtain ⟨cs, h, -⟩ := hA p hp; exact getElem?_lt h
  have hnot : ∀ t n blk cap sz, G1.τ t n = some (blk, cap, sz) → blk ∉ A.map (fun p => G1.ρ p.1) := fun t n blk cap sz h hm => by
    obtain ⟨p, hp, hpe⟩ := List.mem_map.1 hm
    exact (h1.tokv t n blk cap sz h).2.2.2.1 p.1 (hlt p hp) hpe
  refine ⟨h1.below, h1.hB, ?_, ?_, fun i cs h => by simp at h, fun i h => by simp at h, fun i j h => by simp at h, ?_, ?_, ?_⟩
  · intro b o v h
    simp only [sealG] at h ⊢
    split at h
    · rename_i hb; rw [if_pos hb]; exact h
    · rename_i hb; rw [if_neg hb]; exact h1.σβ _ _ _ h
  · intro b o v h
    simp only [sealG] at h
    split at h
    · exact h
    · exact h1.stab _ _ _ h
  · intro t n sz ht hz
    simp only [sealG] at ht ⊢
    rw [List.getElem?_append] at ht
    split at ht
    · rename_i htk
      obtain ⟨blk, cap, q1, q2, q3⟩ := h1.tok t n sz ht hz
      refine ⟨blk, cap, by rw [if_pos htk]; exact q1, q2, fun o ho => ⟨?_, (q3 o ho).2⟩⟩
      rw [if_neg (hnot _ _ _ _ _ q1)]
      exact (q3 o ho).1
    · rw [List.getElem?_map] at ht
      cases hq : A[t - M1.toks.length]? with
      | none => rw [hq] at ht; cases ht
      | some p => rw [hq] at ht; simp at ht; omega
  · intro t n blk cap sz ht
    simp only [sealG] at ht
    split at ht
    · rename_i htk
      obtain ⟨⟨m, s0, p1, p0, p2⟩, p3, p4, p5, p6⟩ := h1.tokv t n blk cap sz ht
      exact ⟨⟨m, s0, by rw [List.getElem?_append_left htk]; exact p1, p0, p2⟩, p3, p4, fun i hi => by simp at hi, p6⟩
    · rename_i htk
      split at ht
      · rename_i p hp
        split at ht
        · rename_i hn
          simp only [Option.some.injEq, Prod.mk.injEq] at ht
          obtain ⟨rfl, rfl, rfl⟩ := ht
          have hpm := List.mem_of_getElem? hp
          obtain ⟨cs, hcs, hle⟩ := hA p hpm
          obtain ⟨b1, b2, b3⟩ := h1.boxB p.1 (hlt p hpm)
          refine ⟨⟨n, 0, by rw [List.getElem?_append_right (by omega), List.getElem?_map, hp, hn]; rfl, .inr rfl, Nat.le_refl _⟩, b1, b2, fun i hi => by simp at hi, fun o ho => ?_⟩
          obtain ⟨-, hc⟩ := h1.box p.1 cs hcs
          obtain ⟨x, -, hf, -⟩ := hc o _ (List.getElem?_eq_getElem (by rw [hn] at ho; omega))
          exact hf
        · cases ht
      · cases ht
  · intro t n t' n' h h' hh hh' hbb
    simp only [sealG] at hh hh'
    split at hh <;> split at hh'
    · exact h1.tokinj _ _ _ _ _ _ hh hh' hbb
    · exfalso
      split at hh'
      · rename_i p hp
        split at hh'
        · simp only [Option.some.injEq] at hh'
          subst hh'
          obtain ⟨b1, c1, z1⟩ := h
          simp only at hbb
          exact hnot _ _ _ _ _ hh (by rw [hbb]; exact List.mem_map.2 ⟨p, List.mem_of_getElem? hp, rfl⟩)
        · cases hh'
      · cases hh'
    · exfalso
      split at hh
      · rename_i p hp
        split at hh
        · simp only [Option.some.injEq] at hh
          subst hh
          obtain ⟨b1, c1, z1⟩ := h'
          simp only at hbb
          exact hnot _ _ _ _ _ hh' (by rw [← hbb]; exact List.mem_map.2 ⟨p, List.mem_of_getElem? hp, rfl⟩)
        · cases hh
      · cases hh
    · split at hh
      · rename_i p hp
        split at hh
        · simp only [Option.some.injEq] at hh
          subst hh
          split at hh'
          · rename_i p' hp'
            split at hh'
            · simp only [Option.some.injEq] at hh'
              subst hh'
              simp only at hbb
              have := h1.boxinj _ _ (hlt p (List.mem_of_getElem? hp)) (hlt p' (List.mem_of_getElem? hp')) hbb
              have := distinct_spec hd (t - M1.toks.length) (t' - M1.toks.length) p.1 (by rw [List.getElem?_map, hp]; rfl) (by rw [List.getElem?_map, hp', this]; rfl)
              omega
            · cases hh'
          · cases hh'
        · cases hh
      · cases hh

theorem seal_goes {G0 : Gh} (h1 : Inv s w G1 M1 w') (hg : Goes s 0 G0 G1) (hA : ∀ p ∈ A, SealOk M1 p) : Goes s 0 G0 (sealG G1 M1 w' A) := by
  have hlt : ∀ p ∈ A, p.1 < M1.boxes.length := fun p hp => by obtain ⟨cs, h, -⟩ := hA p hp; exact getElem?_lt h
  have hnot : ∀ b, b < s → b ∉ A.map (fun p => G1.ρ p.1) := fun b hb hm => by
    obtain ⟨p, hp, hpe⟩ := List.mem_map.1 hm
    have := (h1.boxB p.1 (hlt p hp)).1
    omega
  refine ⟨hg.le.trans (sealG_le h1 0) (Nat.le_refl _), fun b hb => ?_, fun b hb => ?_⟩
  · rw [← hg.σ b hb]
    funext o
    simp only [sealG]
    rw [if_neg (hnot b hb)]
  · rw [← hg.β b hb]
    funext o
    simp only [sealG]
    rw [if_neg (hnot b hb)]

theorem solo_seal {f : FuncId} {as : List AV} {r r' : AV} {ts : List (Nat × Nat)} (hs : sealR r M1 = some (r', ts))
    (hS : ∀ w G vs, Inv w.heap.size w G ⟨[], []⟩ w → Vs G as vs → bdL 0 as = true → Calls P f vs w (CallEnds w.heap.size w 0 G r M1)) : Solo P f as r' ts ∧ own r' = true := by
  unfold sealR at hs
  split at hs
  · rename_i r1 A hA
    split at hs
    · rename_i hc
      obtain ⟨hown, hd⟩ := hc
      simp only [Option.some.injEq, Prod.mk.injEq] at hs
      obtain ⟨rfl, rfl⟩ := hs
      refine ⟨fun w G vs hI hV hb => (hS w G vs hI hV hb).mono ?_, hown⟩
      rintro e w' ⟨v, G1, rfl, g1, g2, g3, g4, g5⟩
      obtain ⟨l, hl, hok⟩ := sealN_ext 6 r [] r1 A hA
      rw [List.nil_append] at hl
      subst hl
      exact ⟨[], v, _, rfl, seal_goes g2 g1 hok, seal_inv g2 hok hd, sealN_V g2 6 r [] r1 _ hA (List.prefix_refl _) v g3 g4, dat_bd _ (own_dat _ hown), Nat.le_refl _⟩
    · cases hs
  · cases hs
end

/-! ### In boxes -/
section
variable {P : Program} {B : Nat} {w0 : World} {G : Gh} {M : Mem} {w w' : World} {G2 : Gh} {base : Nat} {A : List ((Nat × Nat) × List AV)}

theorem boxN_ext : ∀ (k : Nat) (x : AV) (acc : List ((Nat × Nat) × List AV)) (y : AV) (acc' : List ((Nat × Nat) × List AV)), boxN k base x acc = some (y, acc') → acc <+: acc' := by
  intro k
  induction k with
  | zero => intro x acc y acc' h; cases h
  | succ k ih =>
    intro x acc y acc' h
    have many : ∀ {xs ys s s'}, mapA (boxN k base) xs s = some (ys, s') → s <+: s' := fun h => (mapA_get (R := fun a b => a <+: b) (fun _ => List.prefix_refl _) (fun _ _ _ h h' => h.trans h') ih h).1
    cases x with
    | int i n => simp only [boxN, Option.some.injEq, Prod.mk.injEq] at h; rw [← h.2]; exact List.prefix_refl _
    | bool b => simp only [boxN, Option.some.injEq, Prod.mk.injEq] at h; rw [← h.2]; exact List.prefix_refl _
    | str s => simp only [boxN, Option.some.injEq, Prod.mk.injEq] at h; rw [← h.2]; exact List.prefix_refl _
    | nil => simp only [boxN, Option.some.injEq, Prod.mk.injEq] at h; rw [← h.2]; exact List.prefix_refl _
    | sl t xs =>
      cases xs with
      | nil => simp only [boxN, Option.some.injEq, Prod.mk.injEq] at h; rw [← h.2]; exact List.prefix_refl _
      | cons x xs =>
        cases t with
        | ow t =>
          simp only [boxN] at h
          split at h
          · rename_i cs s hc
            simp only [Option.some.injEq, Prod.mk.injEq] at h
            rw [← h.2]
            exact (many hc).trans (List.prefix_append _ _)
          · cases h
        | sh => simp only [boxN] at h; cases h
        | nl => simp only [boxN] at h; cases h
    | agg cs =>
      simp only [boxN, Option.map_eq_some_iff, Prod.mk.injEq] at h
      obtain ⟨⟨l, s⟩, h1, -, rfl⟩ := h
      exact many h1
    | tup cs =>
      simp only [boxN, Option.map_eq_some_iff, Prod.mk.injEq] at h
      obtain ⟨⟨l, s⟩, h1, -, rfl⟩ := h
      exact many h1
    | _ => simp only [boxN] at h; cases h

def boxG (G G2 : Gh) (s base : Nat) (A : List ((Nat × Nat) × List AV)) : Gh :=
  { σ := fun b o => if b < s then G.σ b o else none
    β := fun b o => if b < s then G.β b o else none
    ρ := fun i => if i < base then G.ρ i else match A[i - base]? with
      | some p => ((G2.τ p.1.1 p.1.2).map (·.1)).getD 0
      | none => 0
    τ := G.τ }

structure BoxGood (G2 G3 : Gh) (w' : World) (k : Nat) (p : (Nat × Nat) × List AV) : Prop where
  ex : ∃ blk c sz, G2.τ p.1.1 p.1.2 = some (blk, c, sz) ∧ bdL k p.2 = true ∧ ∀ (j : Nat) (c' : AV), p.2[j]? = some c' → ∃ x, w'.cell? ⟨blk, j, none⟩ = some x ∧ w'.frozen? ⟨blk, j, none⟩ = false ∧ V G3 c' x

def Goods (G2 G3 : Gh) (w' : World) (base : Nat) (acc acc' : List ((Nat × Nat) × List AV)) : Prop := ∀ i p, acc.length ≤ i → acc'[i]? = some p → BoxGood G2 G3 w' (base + i) p

theorem Goods.trans {G2 G3 : Gh} {a b c : List ((Nat × Nat) × List AV)} (hbc : b <+: c) (h : Goods G2 G3 w' base a b) (h' : Goods G2 G3 w' base b c) : Goods G2 G3 w' base a c := by
  intro i p hi hp
  rcases Nat.lt_or_ge i b.length with hb | hb
  · have := prefix_get hbc (List.getElem?_eq_getElem hb)
    rw [hp] at this
    obtain rfl := Option.some.inj this
    exact h i _ hi (List.getElem?_eq_getElem hb)
  · exact h' i p hb hp

theorem boxN_V {s : Nat} {w1 : World} {bs : List (List AV)} {ts : List (Nat × Nat)} (h1 : Inv s w1 G2 ⟨bs, ts⟩ w') : ∀ (k : Nat) (x : AV) (acc : List ((Nat × Nat) × List AV)) (y : AV) (acc' : List ((Nat × Nat) × List AV)), boxN k base x acc = some (y, acc') → acc' <+: A → ∀ v, V G2 x v →
    V (boxG G G2 s base A) y v ∧ bd (base + acc'.length) y = true ∧ Goods G2 (boxG G G2 s base A) w' base acc acc' := by
  intro k
  induction k with
  | zero => intro x acc y acc' h; cases h
  | succ k ih =>
    intro x acc y acc' h hA v hv
    have none' : ∀ a : List ((Nat × Nat) × List AV), Goods G2 (boxG G G2 s base A) w' base a a := fun a i p hi hp => absurd (getElem?_lt hp) (by omega)
    have many : ∀ (xs ys : List AV) (s1 s2 : List ((Nat × Nat) × List AV)) (vs : Nat → Value), mapA (boxN k base) xs s1 = some (ys, s2) → s2 <+: A → (∀ j c, xs[j]? = some c → V G2 c (vs j)) →
        ys.length = xs.length ∧ (∀ j c, ys[j]? = some c → V (boxG G G2 s base A) c (vs j)) ∧ (∀ c ∈ ys, bd (base + s2.length) c = true) ∧ Goods G2 (boxG G G2 s base A) w' base s1 s2 := by
      intro xs
      induction xs with
      | nil =>
        intro ys s1 s2 vs hm _ _
        simp only [mapA, Option.some.injEq, Prod.mk.injEq] at hm
        obtain ⟨rfl, rfl⟩ := hm
        exact ⟨rfl, fun j c hc => by simp at hc, fun c hc => (by cases hc), none' _⟩
      | cons x r ihl =>
        intro ys s1 s2 vs hm hA' hV
        simp only [mapA] at hm
        split at hm
        · rename_i y sm hy
          split at hm
          · rename_i l s3 hl
            simp only [Option.some.injEq, Prod.mk.injEq] at hm
            obtain ⟨rfl, rfl⟩ := hm
            have hpre : sm <+: s3 := (mapA_get (R := fun a b => a <+: b) (fun _ => List.prefix_refl _) (fun _ _ _ h h' => h.trans h') (boxN_ext k) hl).1
            obtain ⟨q1, q2, q3⟩ := ih x s1 y sm hy (hpre.trans hA') _ (hV 0 x rfl)
            obtain ⟨p1, p2, p3, p4⟩ := ihl l sm s3 (fun j => vs (j + 1)) hl hA' (fun j c hc => hV (j + 1) c (by simpa using hc))
            refine ⟨by simp [p1], fun j c hc => ?_, fun c hc => ?_, q3.trans hpre p4⟩
            · cases j with
              | zero => simp at hc; subst hc; exact q1
              | succ j => exact p2 j c (by simpa using hc)
            · have hle := hpre.length_le
              rcases List.mem_cons.1 hc with rfl | hc
              · exact bd_le (by omega) _ q2
              · exact p3 c hc
          · cases hm
        · cases hm
    cases x with
    | int i n => simp only [boxN, Option.some.injEq, Prod.mk.injEq] at h; obtain ⟨rfl, rfl⟩ := h; obtain rfl := hv.int_inv; exact ⟨.int _ _, rfl, none' _⟩
    | bool b => simp only [boxN, Option.some.injEq, Prod.mk.injEq] at h; obtain ⟨rfl, rfl⟩ := h; obtain rfl := hv.bool_inv; exact ⟨.bool _, rfl, none' _⟩
    | str z => simp only [boxN, Option.some.injEq, Prod.mk.injEq] at h; obtain ⟨rfl, rfl⟩ := h; obtain rfl := hv.str_inv; exact ⟨.str _, rfl, none' _⟩
    | nil => simp only [boxN, Option.some.injEq, Prod.mk.injEq] at h; obtain ⟨rfl, rfl⟩ := h; cases hv; exact ⟨.nil, rfl, none' _⟩
    | agg cs =>
      simp only [boxN, Option.map_eq_some_iff, Prod.mk.injEq] at h
      obtain ⟨⟨l, z⟩, h2, rfl, rfl⟩ := h
      obtain ⟨arr, rfl, e1, e2⟩ := hv.agg_inv
      obtain ⟨q1, q2, q3, q4⟩ := many _ _ _ _ (fun j => arr.getD j undef) h2 hA e2
      exact ⟨.agg _ _ (by simp only; omega) q2, by simp only [bd]; exact bdL_of q3, q4⟩
    | tup cs =>
      simp only [boxN, Option.map_eq_some_iff, Prod.mk.injEq] at h
      obtain ⟨⟨l, z⟩, h2, rfl, rfl⟩ := h
      obtain ⟨arr, rfl, e1, e2⟩ := hv.tup_inv
      obtain ⟨q1, q2, q3, q4⟩ := many _ _ _ _ (fun j => arr.getD j undef) h2 hA e2
      exact ⟨.tup _ _ (by simp only; omega) q2, by simp only [bd]; exact bdL_of q3, q4⟩
    | sl t xs =>
      cases xs with
      | nil =>
        simp only [boxN, Option.some.injEq, Prod.mk.injEq] at h
        obtain ⟨rfl, rfl⟩ := h
        obtain ⟨a, cap, sz, blk, off, vs, rfl, -⟩ := hv.sl_inv
        exact ⟨.sl .sh [] a _ cap 0 0 0 (fun _ => undef) rfl (Nat.zero_le _) (fun e he => by cases he) (fun h => absurd rfl h) (fun j hj => by simp [flat] at hj) (fun j c hc => by simp [flat] at hc) (fun h => by cases h) (fun i h => by cases h), rfl, none' _⟩
      | cons x xs =>
        cases t with
        | ow t =>
          simp only [boxN] at h
          split at h
          · rename_i cs z hc
            simp only [Option.some.injEq, Prod.mk.injEq] at h
            obtain ⟨rfl, rfl⟩ := h
            obtain ⟨a, cap, sz, blk, off, vs, rfl, hcap, hsz, ha, hσ, hV, -, how⟩ := hv.sl_inv
            obtain ⟨ha', rfl, c, hτ, -⟩ := how t rfl
            have hzA : z <+: A := (List.prefix_append _ _).trans hA
            obtain ⟨q1, q2, q3, q4⟩ := many _ _ _ _ vs hc hzA hV
            have hget : A[z.length]? = some ((t, xs.length + 1), cs) := prefix_get hA (by simp)
            have hρ : (boxG G G2 s base A).ρ (base + z.length) = blk := by
              simp only [boxG]
              rw [if_neg (by omega), Nat.add_sub_cancel_left, hget]
              simp only [List.length_cons] at hτ
              simp [hτ]
            have hflat := flat_len (fun y hy => (hsz y hy).2)
            refine ⟨.bsl _ _ _ _ _ _ _ hcap fun _ => ?_, by simp [bd], q4.trans (List.prefix_append _ _) fun i p hi hp => ?_⟩
            · rw [hρ]; exact ha'
            · have hil := getElem?_lt hp
              simp at hil
              have : i = z.length := by omega
              subst this
              simp at hp
              subst hp
              refine ⟨blk, c, sz, by simpa using hτ, bdL_of q3, fun j c' hj => ⟨vs j, ?_, ?_, q2 j c' hj⟩⟩
              · have hjl : j < cs.length := getElem?_lt hj
                have := h1.stab _ _ _ (h1.σβ _ _ _ (hσ j (by omega)))
                simpa using this
              · have hjl : j < cs.length := getElem?_lt hj
                exact (h1.tokv _ _ _ _ _ hτ).2.2.2.2 j (by rw [← hflat]; omega)
          · cases h
        | sh => simp only [boxN] at h; cases h
        | nl => simp only [boxN] at h; cases h
    | _ => simp only [boxN] at h; cases h

theorem box_inv (hI : Inv B w0 G M w) {bs : List (List AV)} {ts : List (Nat × Nat)} (h1 : Inv w.heap.size w G2 ⟨bs, ts⟩ w') (hG : Goods G2 (boxG G G2 w.heap.size M.boxes.length A) w' M.boxes.length [] A) (hd : distinct (A.map (·.1.1)) = true) :
    Inv B w0 (boxG G G2 w.heap.size M.boxes.length A) ⟨M.boxes ++ A.map (·.2), M.toks⟩ w' ∧ Goes B M.boxes.length G (boxG G G2 w.heap.size M.boxes.length A) := by
  have hβlt : ∀ b o v, G.β b o = some v → b < w.heap.size := fun b o v h => cell_lt (hI.stab _ _ _ h)
  have hBs := hI.hB
  have hle : G.le M.boxes.length (boxG G G2 w.heap.size M.boxes.length A) := by
    refine ⟨fun b o v h => ?_, fun b o v h => ?_, fun i hi => ?_, fun t l h hh => hh⟩
    · simp only [boxG]; rw [if_pos (hβlt _ _ _ (hI.σβ _ _ _ h))]; exact h
    · simp only [boxG]; rw [if_pos (hβlt _ _ _ h)]; exact h
    · simp only [boxG]; rw [if_pos hi]
  have hI2 := hI.of_below h1.below
  -- a new box
  have new : ∀ i, M.boxes.length ≤ i → i < M.boxes.length + A.length → ∃ p blk c sz, A[i - M.boxes.length]? = some p ∧ (boxG G G2 w.heap.size M.boxes.length A).ρ i = blk ∧ G2.τ p.1.1 p.1.2 = some (blk, c, sz) ∧ bdL i p.2 = true ∧
      ∀ (j : Nat) (c' : AV), p.2[j]? = some c' → ∃ x, w'.cell? ⟨blk, j, none⟩ = some x ∧ w'.frozen? ⟨blk, j, none⟩ = false ∧ V (boxG G G2 w.heap.size M.boxes.length A) c' x := by
    intro i h2 h3
    have hp : A[i - M.boxes.length]? = some (A[i - M.boxes.length]'(by omega)) := List.getElem?_eq_getElem (by omega)
    obtain ⟨blk, c, sz, q1, q2, q3⟩ := (hG (i - M.boxes.length) _ (Nat.zero_le _) hp).ex
    refine ⟨_, blk, c, sz, hp, ?_, q1, ?_, q3⟩
    · simp only [boxG]
      rw [if_neg (by omega), hp]
      simp [q1]
    · rw [show M.boxes.length + (i - M.boxes.length) = i by omega] at q2; exact q2
  have old : ∀ i, i < M.boxes.length → (boxG G G2 w.heap.size M.boxes.length A).ρ i = G.ρ i := hle.ρ
  refine ⟨⟨hI2.below, hI2.hB, ?_, ?_, ?_, ?_, ?_, ?_, ?_, ?_⟩, ⟨hle, fun b hb => ?_, fun b hb => ?_⟩⟩
  · intro b o v h
    simp only [boxG] at h ⊢
    split at h
    · rename_i hb; rw [if_pos hb]; exact hI.σβ _ _ _ h
    · cases h
  · intro b o v h
    simp only [boxG] at h
    split at h
    · exact hI2.stab _ _ _ h
    · cases h
  · intro i cs hi
    rw [List.getElem?_append] at hi
    split at hi
    · rename_i hil
      obtain ⟨q1, q2⟩ := hI2.box i cs hi
      refine ⟨bdL_le (by simp) _ q1, fun j c hj => ?_⟩
      obtain ⟨x, p1, p2, p3⟩ := q2 j c hj
      rw [old i hil]
      exact ⟨x, p1, p2, p3.mono hle (bd_le (by omega) c (bdL_mem q1 c (getElem?_mem' hj)))⟩
    · rename_i hil
      have hlt := getElem?_lt hi
      simp at hlt
      obtain ⟨p, blk, c, sz, q1, q2, q3, q4, q5⟩ := new i (by omega) (by omega)
      rw [List.getElem?_map, q1] at hi
      obtain rfl := Option.some.inj hi
      refine ⟨bdL_le (by simp; omega) _ q4, fun j c' hj => ?_⟩
      rw [q2]
      exact q5 j c' hj
  · intro i hi
    simp at hi
    by_cases hil : i < M.boxes.length
    · obtain ⟨q1, q2, q3⟩ := hI2.boxB i hil
      rw [old i hil]
      refine ⟨q1, q2, fun j => ?_⟩
      simp only [boxG]
      rw [if_pos (hI.boxB i hil).2.1]
      exact q3 j
    · obtain ⟨p, blk, c, sz, q1, q2, q3, q4, q5⟩ := new i (by omega) (by omega)
      obtain ⟨-, t1, t2, -⟩ := h1.tokv _ _ _ _ _ q3
      rw [q2]
      refine ⟨by omega, t2, fun j => ?_⟩
      simp only [boxG]
      rw [if_neg (by omega)]
  · intro i j hi hj hij
    simp at hi hj
    by_cases hil : i < M.boxes.length <;> by_cases hjl : j < M.boxes.length
    · rw [old i hil, old j hjl] at hij; exact hI.boxinj i j hil hjl hij
    · exfalso
      obtain ⟨p, blk, c, sz, q1, q2, q3, -⟩ := new j (by omega) (by omega)
      have := (hI.boxB i hil).2.1
      have := (h1.tokv _ _ _ _ _ q3).2.1
      rw [old i hil, q2] at hij
      omega
    · exfalso
      obtain ⟨p, blk, c, sz, q1, q2, q3, -⟩ := new i (by omega) (by omega)
      have := (hI.boxB j hjl).2.1
      have := (h1.tokv _ _ _ _ _ q3).2.1
      rw [old j hjl, q2] at hij
      omega
    · obtain ⟨p, blk, c, sz, q1, q2, q3, -⟩ := new i (by omega) (by omega)
      obtain ⟨p', blk', c', sz', q1', q2', q3', -⟩ := new j (by omega) (by omega)
      rw [q2, q2'] at hij
      have ht := h1.tokinj _ _ _ _ _ _ q3 q3' hij
      have := distinct_spec hd (i - M.boxes.length) (j - M.boxes.length) p.1.1 (by rw [List.getElem?_map, q1]; rfl) (by rw [List.getElem?_map, q1', ht]; rfl)
      omega
  · intro t n sz ht hz
    obtain ⟨blk, cap, q1, q2, q3⟩ := hI2.tok t n sz ht hz
    refine ⟨blk, cap, q1, q2, fun o ho => ⟨?_, (q3 o ho).2⟩⟩
    simp only [boxG]
    rw [if_pos (hI.tokv _ _ _ _ _ q1).2.2.1]
    exact (q3 o ho).1
  · intro t n blk cap sz ht
    obtain ⟨p1, p3, p4, p5, p6⟩ := hI2.tokv t n blk cap sz ht
    refine ⟨p1, p3, p4, fun i hi => ?_, p6⟩
    simp at hi
    by_cases hil : i < M.boxes.length
    · rw [old i hil]; exact p5 i hil
    · obtain ⟨p, blk', c, sz, q1, q2, q3, -⟩ := new i (by omega) (by omega)
      have := (hI.tokv _ _ _ _ _ ht).2.2.1
      have := (h1.tokv _ _ _ _ _ q3).2.1
      rw [q2]
      omega
  · exact hI2.tokinj
  · funext o
    simp only [boxG]
    rw [if_pos (by omega)]
  · funext o
    simp only [boxG]
    rw [if_pos (by omega)]

theorem solo_box {f : FuncId} {as : List AV} {r r' : AV} {ts : List (Nat × Nat)} {nb : List (List AV)} (hS : Solo P f as r ts) (hb : boxR M.boxes.length r = some (r', nb)) (hI : Inv B w0 G M w) {xs : List AV} {vs : Array Value} (hs : snapL M xs = some as) (hV : Vs G xs vs) :
    Calls P f vs w (CallEnds B w0 M.boxes.length G r' ⟨M.boxes ++ nb, M.toks⟩) := by
  obtain ⟨h1, h2⟩ := lent_args hI hs hV
  refine (hS w _ vs lent_inv h1 h2).mono ?_
  rintro e w' ⟨bs, v, G1, rfl, g1, g2, g3, g4, g5⟩
  unfold boxR at hb
  split at hb
  · rename_i r1 A hA
    split at hb
    · rename_i hd
      simp only [Option.some.injEq, Prod.mk.injEq] at hb
      obtain ⟨rfl, rfl⟩ := hb
      obtain ⟨q1, q2, q3⟩ := boxN_V (G := G) g2 6 r [] r1 A hA (List.prefix_refl _) v g3
      obtain ⟨p1, p2⟩ := box_inv hI g2 q3 hd
      exact ⟨v, _, rfl, p2, p1, q1, by simpa using q2, by simp⟩
    · cases hb
  · cases hb
end
end Go.AM
