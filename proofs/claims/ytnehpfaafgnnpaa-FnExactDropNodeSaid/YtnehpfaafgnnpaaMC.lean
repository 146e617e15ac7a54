/- Stores, composite values, new slices. New arrays: literals, make, append; bytes made a string. Append; bytes made a string. -/
import Derived.Test.YtnehpfaafgnnpaaMB
import Derived.Laws.AppendOwn
set_option linter.unusedSimpArgs false
set_option linter.unusedVariables false
set_option linter.unnecessarySimpa false
namespace Go.AM
open AV Go.RowKit

section
variable {P : Program} {B : Nat} {w0 : World} {G : Gh} {M : Mem} {w : World} {a : Act} {e : Env} {o : Oper}

theorem ok_ia {x i : Operand} {sx si : X} {t e' : TypeId} {n : Nat} (hI : Inv B w0 G M w) (hE : VE G M.boxes.length e a) (ho : o.op = .indexAddr t x i) (hx : slimX x = some sx) (hi : slimX i = some si)
    (hu : P.underlying t = some (.slice e')) (hn : sizeT P e' = some n)
    {v : AV} {M' : Mem} {cl : FuncId → List AV → Mem → Option (AV × Mem)} (hev : (SOp.ia n sx si).ev cl e M = some (v, M')) : OpOk P o a w B w0 M.boxes.length G v M' := by
  obtain ⟨x1, x2⟩ := slimX_V hE hx
  obtain ⟨i1, i2⟩ := slimX_V hE hi
  simp only [SOp.ev] at hev
  split at hev
  · rename_i tk xs k q hs hq
    split at hev
    · rename_i h0
      split at hev
      · rename_i y hy
        split at hev
        · rename_i hk
          simp only [Option.some.injEq, Prod.mk.injEq] at hev
          obtain ⟨rfl, rfl⟩ := hev
          rw [hs] at x1 x2
          rw [hq] at i1
          obtain ⟨b, cap, sz, blk, off, vs, h1, h2, h3, h4, h5, h6, -⟩ := x1.sl_inv
          have hlt := getElem?_lt hy
          have hmem := getElem?_mem' hy
          have hsz : sz = n := by have := (h3 y hmem).2; omega
          subst hsz
          have hne : xs ≠ [] := fun h => by rw [h] at hlt; simp at hlt
          have hb := h4 hne
          have hrun : (execOp a.eval o).run P w = .ok (.value (.pointer (some ⟨blk, off + q.toNat * sz, none⟩))) w := by
            unfold execOp; rw [ho]; simp only [h1, i1.int_inv, hb]
            have hc : 0 ≤ q ∧ q < (xs.length : Int) := ⟨h0, by omega⟩
            simp [Instr.indexAt, asIntOf, run_underlying hu, hc, run_sizeOf hn, Addr.add_plain]
          have hget : ∀ j c, y.cells[j]? = some c → (flat xs)[q.toNat * sz + j]? = some c := fun j c hc => flat_get (fun z hz => (h3 z hz).2) hy hc
          refine .same hI hrun (.adr _ (fun j => vs (q.toNat * sz + j)) blk _ (fun j hj => ?_) (fun j c hc => ?_)) ?_
          · rw [Nat.add_assoc]
            exact hI.σβ _ _ _ (h5 _ (getElem?_lt (hget j _ (List.getElem?_eq_getElem hj))))
          · exact h6 _ _ (hget j c hc)
          · simp only [bd] at x2 ⊢
            exact bdL_of (bd_cells (bdL_mem x2 y hmem))
        · cases hev
      · cases hev
    · cases hev
  · rename_i b k n' sz' ag k' q hs hq
    split at hev
    rotate_left
    · cases hev
    rename_i hc
    obtain ⟨c1, c2, rfl⟩ := hc
    simp only [Option.some.injEq, Prod.mk.injEq] at hev
    obtain ⟨rfl, rfl⟩ := hev
    rw [hs] at x1 x2
    rw [hq] at i1
    obtain ⟨b', cap, h1, h2, h3⟩ := x1.bsl_inv
    refine .same hI (x := .pointer (some ⟨G.ρ b, k + q.toNat * n, none⟩)) ?_ (.ptr _ _) x2
    unfold execOp; rw [ho]; simp only [h1, i1.int_inv, h3 (by omega)]
    have hc : 0 ≤ q ∧ q < (n' : Int) := ⟨c1, c2⟩
    simp [Instr.indexAt, asIntOf, run_underlying hu, hc, run_sizeOf hn, Addr.add_plain]
  · cases hev

theorem ok_iaA {x i : Operand} {sx si : X} {t e' : TypeId} {n len : Nat} (hI : Inv B w0 G M w) (hE : VE G M.boxes.length e a) (ho : o.op = .indexAddr t x i) (hx : slimX x = some sx) (hi : slimX i = some si)
    (hu : P.underlying t = some (.array len e')) (hn : sizeT P e' = some n)
    {v : AV} {M' : Mem} {cl : FuncId → List AV → Mem → Option (AV × Mem)} (hev : (SOp.iaA len n sx si).ev cl e M = some (v, M')) : OpOk P o a w B w0 M.boxes.length G v M' := by
  obtain ⟨x1, x2⟩ := slimX_V hE hx
  obtain ⟨i1, i2⟩ := slimX_V hE hi
  have hrun : ∀ blk off k q, a.eval x = .pointer (some ⟨blk, off, none⟩) → a.eval i = .int k q → 0 ≤ q ∧ q < len →
      (execOp a.eval o).run P w = .ok (.value (.pointer (some ⟨blk, off + q.toNat * n, none⟩))) w := by
    intro blk off k q h1 h2 h3
    unfold execOp; rw [ho]; simp only [h1, h2]
    simp [Instr.indexAt, asIntOf, Instr.sureAddr, run_underlying hu, h3, run_sizeOf hn, Addr.add_plain]
  simp only [SOp.ev] at hev
  split at hev
  · rename_i b k kk q hs hq
    split at hev
    · rename_i hc
      simp only [Option.some.injEq, Prod.mk.injEq] at hev
      obtain ⟨rfl, rfl⟩ := hev
      rw [hs] at x1 x2
      rw [hq] at i1
      exact .same hI (hrun _ _ _ _ x1.ptr_inv i1.int_inv hc) (.ptr b _) (by simpa only [bd] using x2)
    · cases hev
  · rename_i cs kk q hs hq
    split at hev
    · rename_i hc
      simp only [Option.some.injEq, Prod.mk.injEq] at hev
      obtain ⟨rfl, rfl⟩ := hev
      rw [hs] at x1 x2
      rw [hq] at i1
      obtain ⟨vs, blk, off, h0, h1, h2⟩ := x1.adr_inv
      refine .same hI (hrun _ _ _ _ h0 i1.int_inv hc) (.adr _ (fun j => vs (q.toNat * n + j)) blk _ (fun j hj => ?_) (fun j c hc => ?_)) ?_
      · rw [Nat.add_assoc]; exact h1 _ (by simp at hj; omega)
      · rw [List.getElem?_drop] at hc; exact h2 _ _ hc
      · simp only [bd] at x2 ⊢
        exact bdL_of fun c hc => bdL_mem x2 c (List.mem_of_mem_drop hc)
    · cases hev
  · cases hev

theorem ok_ixA {x i : Operand} {sx si : X} {t e' : TypeId} {n len : Nat} {ag : Bool} (hI : Inv B w0 G M w) (hE : VE G M.boxes.length e a) (ho : o.op = .index t x i) (hx : slimX x = some sx) (hi : slimX i = some si)
    (hu : P.underlying t = some (.array len e')) (hag : aggType P e' = some ag) (hn : sizeT P e' = some n) (hone : ag = false → n = 1)
    {v : AV} {M' : Mem} {cl : FuncId → List AV → Mem → Option (AV × Mem)} (hev : (SOp.ixA ag len n sx si).ev cl e M = some (v, M')) : OpOk P o a w B w0 M.boxes.length G v M' := by
  obtain ⟨x1, x2⟩ := slimX_V hE hx
  obtain ⟨i1, i2⟩ := slimX_V hE hi
  simp only [SOp.ev] at hev
  split at hev
  · rename_i cs kk q hs hq
    split at hev
    · rename_i hc
      simp only [Option.map_eq_some_iff, Prod.mk.injEq] at hev
      obtain ⟨u, hcut, rfl, rfl⟩ := hev
      rw [hs] at x1 x2
      rw [hq] at i1
      obtain ⟨arr, h0, h1, h2⟩ := x1.agg_inv
      have hn' : (ag = true ∧ sizeT P e' = some n) ∨ (ag = false ∧ n = 1) := by
        cases ag
        · exact .inr ⟨rfl, hone rfl⟩
        · exact .inl ⟨rfl, hn⟩
      obtain ⟨y, q1, q2, q3⟩ := part_known (P := P) (w := w) hag hn' ⟨h1, h2⟩ hcut
      refine .same hI (x := y) ?_ q2 (q3 _ (by simpa only [bd] using x2))
      unfold execOp; rw [ho]; simp only [h0, i1.int_inv]
      simp [Instr.index, asIntOf, run_underlying hu, hc, run_sizeOf hn, q1]
    · cases hev
  · cases hev

theorem lay_get {cs ys : List AV} {k : Nat} (h : k + ys.length ≤ cs.length) (j : Nat) :
    (lay cs k ys)[j]? = if j < k then cs[j]? else if j < k + ys.length then ys[j - k]? else cs[j]? := by
  unfold lay
  have hk : (cs.take k).length = k := by simp; omega
  by_cases h1 : j < k
  · rw [if_pos h1, List.append_assoc, List.getElem?_append_left (by omega), List.getElem?_take, if_pos h1]
  · rw [if_neg h1]
    by_cases h2 : j < k + ys.length
    · rw [if_pos h2, List.append_assoc, List.getElem?_append_right (by omega), hk, List.getElem?_append_left (by omega)]
    · rw [if_neg h2, List.append_assoc, List.getElem?_append_right (by omega), hk, List.getElem?_append_right (by omega), List.getElem?_drop]
      congr 1; omega
theorem lay_len {cs ys : List AV} {k : Nat} (h : k + ys.length ≤ cs.length) : (lay cs k ys).length = cs.length := by
  unfold lay; simp; omega
theorem lay_mem {cs ys : List AV} {k : Nat} {c : AV} (h : c ∈ lay cs k ys) : c ∈ cs ∨ c ∈ ys := by
  unfold lay at h
  simp only [List.mem_append] at h
  rcases h with (h | h) | h
  · exact .inl (List.mem_of_mem_take h)
  · exact .inr h
  · exact .inl (List.mem_of_mem_drop h)

theorem fold_set (l : List (Value × Nat)) (off : Nat) : ∀ (k : Nat) (cs : Array Value), (∀ j c, l[j]? = some c → c.2 = k + j) → off + k + l.length ≤ cs.size →
    (l.foldl (fun cs (x : Value × Nat) => cs.setIfInBounds (off + x.2) x.1) cs).size = cs.size ∧
    ∀ j, (l.foldl (fun cs (x : Value × Nat) => cs.setIfInBounds (off + x.2) x.1) cs).getD j undef = if off + k ≤ j ∧ j < off + k + l.length then ((l[j - (off + k)]?).map (·.1)).getD undef else cs.getD j undef := by
  induction l with
  | nil => intro k cs _ _; exact ⟨rfl, fun j => by rw [if_neg (by simp only [List.length_nil]; omega)]; rfl⟩
  | cons x r ih =>
    intro k cs h hlen
    have hx := h 0 x rfl
    simp only [Nat.add_zero] at hx
    simp only [List.length_cons] at hlen
    obtain ⟨h1, h2⟩ := ih (k + 1) (cs.setIfInBounds (off + x.2) x.1) (fun j c hc => by have := h (j + 1) c (by simpa using hc); omega) (by simp; omega)
    refine ⟨by simpa using h1, fun j => ?_⟩
    rw [List.foldl_cons, h2 j]
    simp only [List.length_cons]
    by_cases hj : off + (k + 1) ≤ j ∧ j < off + (k + 1) + r.length
    · rw [if_pos hj, if_pos (by omega), show j - (off + k) = (j - (off + (k + 1))) + 1 by omega, List.getElem?_cons_succ]
    · rw [if_neg hj]
      by_cases hj2 : j = off + k
      · subst hj2
        rw [if_pos (by omega)]
        simp [hx, Array.getD]
        intro h0
        omega
      · rw [if_neg (by omega)]
        simp [hx, Array.getD, Array.getElem_setIfInBounds]
        by_cases hs : j < cs.size
        · simp [hs, Ne.symm hj2]
        · simp [hs]

theorem Vs.lay {cs ys : List AV} {arr vv : Array Value} {k : Nat} (h : Vs G cs arr) (hy : Vs G ys vv) (hk : k + ys.length ≤ cs.length) :
    Vs G (lay cs k ys) (vv.zipIdx.foldl (fun cs (x : Value × Nat) => cs.setIfInBounds (k + x.2) x.1) arr) := by
  have hz : vv.zipIdx.foldl (fun cs (x : Value × Nat) => cs.setIfInBounds (k + x.2) x.1) arr = vv.zipIdx.toList.foldl (fun cs (x : Value × Nat) => cs.setIfInBounds (k + x.2) x.1) arr := by rw [Array.foldl_toList]
  rw [hz]
  have hlen : vv.zipIdx.toList.length = ys.length := by simp [hy.1]
  obtain ⟨h1, h2⟩ := fold_set vv.zipIdx.toList k 0 arr (fun j c hc => by simp at hc; obtain ⟨_, _, rfl⟩ := hc; simp) (by rw [hlen, h.1]; omega)
  refine ⟨by rw [h1, h.1, lay_len hk], fun j c hc => ?_⟩
  rw [h2 j, hlen]
  rw [lay_get hk] at hc
  by_cases hj1 : j < k
  · rw [if_pos hj1] at hc; rw [if_neg (by omega)]; exact h.2 j c hc
  · rw [if_neg hj1] at hc
    by_cases hj2 : j < k + ys.length
    · rw [if_pos hj2] at hc
      rw [if_pos (by omega)]
      have := hy.2 _ c hc
      simp only [Nat.add_zero]
      have hlt : j - k < vv.size := by rw [hy.1]; exact getElem?_lt hc
      simpa [Array.getD, hlt] using this
    · rw [if_neg hj2] at hc; rw [if_neg (by omega)]; exact h.2 j c hc

theorem fill_V {place : Nat → Option (Nat × Nat)} (hE : VE G M.boxes.length e a) : ∀ {parts : List (Nat × Operand)} {ps : List (Nat × Nat × X)} {l : List (Nat × List AV)} {cs cs' : List AV} {arr : Array Value},
    slimParts place parts = some ps → evP e ps = some l → fillA cs l = some cs' → Vs G cs arr → bdL M.boxes.length cs = true →
    ∃ arr', Instr.fill place arr (parts.map fun p => (p.1, a.eval p.2)) = some arr' ∧ Vs G cs' arr' ∧ bdL M.boxes.length cs' = true
  | [], ps, l, cs, cs', arr, h1, h2, h3, h4, h5 => by
    cases h1; cases h2; cases h3; exact ⟨arr, rfl, h4, h5⟩
  | (i, x) :: r, ps, l, cs, cs', arr, h1, h2, h3, h4, h5 => by
    simp only [slimParts] at h1
    split at h1
    · rename_i k n sx l' hp hx hr
      obtain rfl := Option.some.inj h1
      simp only [evP] at h2
      split at h2
      · rename_i hk
        simp only [Option.map_eq_some_iff] at h2
        obtain ⟨l2, hl2, rfl⟩ := h2
        simp only [fillA] at h3
        split at h3
        · rename_i hle
          obtain ⟨x1, x2⟩ := slimX_V hE hx
          obtain ⟨c1, c2⟩ := x1.cells hk.1
          obtain ⟨arr', q1, q2, q3⟩ := fill_V (place := place) hE hr hl2 h3 (Vs.lay h4 ⟨c1, c2⟩ hle) (bdL_of fun c hc => by
            rcases lay_mem hc with hc | hc
            · exact bdL_mem h5 c hc
            · exact bd_cells x2 c hc)
          refine ⟨arr', ?_, q2, q3⟩
          simp only [List.map_cons, Instr.fill, hp]
          rw [if_neg (by simp; refine ⟨by omega, by rw [c1, h4.1]; exact hle⟩)]
          exact q1
        · cases h3
      · cases h2
    · cases h1

theorem ok_bd {t : TypeId} {parts : Array (Nat × Operand)} {zs : List AV} {ps : List (Nat × Nat × X)} (hI : Inv B w0 G M w) (hE : VE G M.boxes.length e a) (ho : o.op = .build t parts) (hs : slimOp P (.build t parts) = some (.bd zs ps))
    {v : AV} {M' : Mem} {cl : FuncId → List AV → Mem → Option (AV × Mem)} (hev : (SOp.bd zs ps).ev cl e M = some (v, M')) : OpOk P o a w B w0 M.boxes.length G v M' := by
  simp only [SOp.ev] at hev
  split at hev
  · rename_i l hl
    simp only [Option.map_eq_some_iff, Prod.mk.injEq] at hev
    obtain ⟨cs, hcs, rfl, rfl⟩ := hev
    have main : ∃ arr, P.built t (parts.map fun (i, x) => (i, a.eval x)).toList = some arr ∧ Vs G cs arr ∧ bdL M.boxes.length cs = true := by
      have hmap : (parts.map fun (i, x) => (i, a.eval x)).toList = parts.toList.map fun p => (p.1, a.eval p.2) := by simp
      rw [hmap]
      simp only [slimOp] at hs
      split at hs
      · rename_i it n e' hit hu
        split at hs
        · rename_i z ie hz hie
          split at hs
          · rename_i zs' ps' hzs hps
            simp only [Option.some.injEq, SOp.bd.injEq] at hs
            obtain ⟨rfl, rfl⟩ := hs
            obtain ⟨h1, h2⟩ := toAVs_Vs hzs G
            obtain ⟨arr, q1, q2, q3⟩ := fill_V hE hps hl hcs h1 (h2 _)
            exact ⟨arr, by simp only [Program.built, hit, hu, hz, hie]; exact q1, q2, q3⟩
          · cases hs
        · cases hs
      · rename_i it fields hit hu
        split at hs
        · rename_i z places hz hpl
          split at hs
          · rename_i zs' ps' hzs hps
            simp only [Option.some.injEq, SOp.bd.injEq] at hs
            obtain ⟨rfl, rfl⟩ := hs
            obtain ⟨h1, h2⟩ := toAVs_Vs hzs G
            obtain ⟨arr, q1, q2, q3⟩ := fill_V hE hps hl hcs h1 (h2 _)
            exact ⟨arr, by simp only [Program.built, hit, hu, hz, hpl]; exact q1, q2, q3⟩
          · cases hs
        · cases hs
      · cases hs
    obtain ⟨arr, h1, h2, h3⟩ := main
    refine .same hI (x := .agg arr) ?_ (.agg _ _ h2.1 h2.2) (by simpa only [bd] using h3)
    unfold execOp; rw [ho]
    simp only [Sem.run_bind, run_build w t _ arr h1, Result.andThen_ok, Sem.run_pure]
  · cases hev

theorem Below.setCells {B : Nat} {w0 : World} {b : Nat} (hb : B ≤ b) : ∀ (vs : List Value) (k : Nat) {w : World}, Below B w0 w → Below B w0 (w.setCells b k vs)
  | [], _, _, h => h
  | v :: r, k, _, h => Below.setCells hb r (k + 1) (h.setCell (p := ⟨b, k, none⟩) hb v)
theorem size_setCells (b : Nat) : ∀ (vs : List Value) (k : Nat) (w : World), (w.setCells b k vs).heap.size = w.heap.size
  | [], _, _ => rfl
  | v :: r, k, w => by rw [World.setCells, size_setCells b r]; simp

/-- A store into a box. -/
theorem Inv.store (h : Inv B w0 G M w) {b k : Nat} {cs ys : List AV} {arr : Array Value} (hb : M.boxes[b]? = some cs) (hV : Vs G ys arr) (hk : k + ys.length ≤ cs.length) (hbd : bdL M.boxes.length ys = true) :
    Inv B w0 G ⟨M.boxes.set b (lay cs k ys), M.toks⟩ (w.setCells (G.ρ b) k arr.toList) := by
  have hlt := getElem?_lt hb
  obtain ⟨hB1, hB2, hB3⟩ := h.boxB b hlt
  obtain ⟨hc1, hc2⟩ := h.box b cs hb
  have hout : ∀ x o', x ≠ G.ρ b → (w.setCells (G.ρ b) k arr.toList).cell? ⟨x, o', none⟩ = w.cell? ⟨x, o', none⟩ := fun x o' hx =>
    World.cell?_setCells_out _ _ _ _ _ (fun h => absurd h hx)
  have hfr : ∀ x o', (w.setCells (G.ρ b) k arr.toList).frozen? ⟨x, o', none⟩ = w.frozen? ⟨x, o', none⟩ := fun x o' => World.frozen?_setCells _ _ _ _ _
  have hsz : (w.setCells (G.ρ b) k arr.toList).heap.size = w.heap.size := size_setCells _ _ _ _
  have hal : arr.toList.length = ys.length := by simp [hV.1]
  refine ⟨Below.setCells hB1 _ _ h.below, by rw [hsz]; exact h.hB, h.σβ, ?_, ?_, ?_, ?_, ?_, ?_, h.tokinj⟩
  · intro x o' v hv
    rw [hout x o' (fun hx => by rw [hx, hB3] at hv; cases hv)]
    exact h.stab _ _ _ hv
  · intro i cs' hi
    simp only [List.getElem?_set] at hi
    by_cases hib : b = i
    · subst hib
      rw [if_pos rfl, if_pos hlt] at hi
      obtain rfl := Option.some.inj hi
      refine ⟨?_, fun j c hj => ?_⟩
      · show bdL (M.boxes.set b _).length _ = true
        rw [List.length_set]
        refine bdL_of fun c hc => ?_
        rcases lay_mem hc with hc | hc
        · exact bdL_mem hc1 c hc
        · exact bdL_mem hbd c hc
      · rw [lay_get hk] at hj
        rw [hfr]
        have hold : ∀ j, j < cs.length → (w.cell? ⟨G.ρ b, j, none⟩).isSome = true ∧ w.frozen? ⟨G.ρ b, j, none⟩ = false := fun j hj => by
          obtain ⟨x, q1, q2, _⟩ := hc2 j _ (List.getElem?_eq_getElem hj)
          exact ⟨by simp [q1], q2⟩
        by_cases hj1 : j < k
        · rw [if_pos hj1] at hj
          obtain ⟨x, q1, q2, q3⟩ := hc2 j c hj
          exact ⟨x, by rw [World.cell?_setCells_out _ _ _ _ _ (fun _ _ => .inl hj1)]; exact q1, q2, q3⟩
        · rw [if_neg hj1] at hj
          by_cases hj2 : j < k + ys.length
          · rw [if_pos hj2] at hj
            have hjl : j - k < arr.toList.length := by omega
            have hin := World.cell?_setCells_in (G.ρ b) arr.toList k w (fun i hi => (hold _ (by omega)).1) (j - k) hjl
            rw [show k + (j - k) = j by omega] at hin
            refine ⟨_, hin, (hold j (by omega)).2, ?_⟩
            have := hV.2 _ c hj
            have hja : j - k < arr.size := by simpa using hjl
            simpa [Array.getD, hja] using this
          · rw [if_neg hj2] at hj
            obtain ⟨x, q1, q2, q3⟩ := hc2 j c hj
            exact ⟨x, by rw [World.cell?_setCells_out _ _ _ _ _ (fun _ _ => .inr (by show k + arr.toList.length ≤ j; omega))]; exact q1, q2, q3⟩
    · rw [if_neg hib] at hi
      obtain ⟨q1, q2⟩ := h.box i cs' hi
      refine ⟨by show bdL (M.boxes.set b _).length _ = true; rw [List.length_set]; exact q1, fun j c hj => ?_⟩
      obtain ⟨x, p1, p2, p3⟩ := q2 j c hj
      have hne : G.ρ i ≠ G.ρ b := fun hh => hib (h.boxinj i b (getElem?_lt hi) hlt hh).symm
      exact ⟨x, by rw [hout _ _ hne]; exact p1, by rw [hfr]; exact p2, p3⟩
  · intro i hi
    simp only [List.length_set] at hi
    rw [hsz]; exact h.boxB i hi
  · intro i j hi hj hij
    simp only [List.length_set] at hi hj
    exact h.boxinj i j hi hj hij
  · intro t n sz ht hz
    obtain ⟨blk, cap, q1, q2, q3⟩ := h.tok t n sz ht hz
    have hne : blk ≠ G.ρ b := fun hh => (h.tokv t n blk _ sz q1).2.2.2.1 b hlt hh.symm
    exact ⟨blk, cap, q1, q2, fun o' ho' => ⟨(q3 o' ho').1, fun hc => by rw [hout _ _ hne, hfr]; exact (q3 o' ho').2 hc⟩⟩
  · intro t n blk cap sz ht
    obtain ⟨q1, q2, q3, q4, q5⟩ := h.tokv t n blk cap sz ht
    exact ⟨q1, q2, by rw [hsz]; exact q3, fun i hi => q4 i (by simpa using hi), fun o ho => by rw [hfr]; exact q5 o ho⟩

theorem okE_inv {n : Nat} {y : AV} (h : okE n y = true) : y.cells.length = n ∧ (∀ c ∈ y.cells, c.one = true) ∧ y.known = true := by
  simp only [okE, Bool.and_eq_true, beq_iff_eq, List.all_eq_true] at h
  refine ⟨h.1, h.2, ?_⟩
  cases y <;> first | rfl | (have := h.2 _ (List.mem_singleton.2 rfl); simp [AV.one] at this)

theorem ok_st {t : TypeId} {x y : Operand} {sx sy : X} {n : Nat} (hI : Inv B w0 G M w) (hE : VE G M.boxes.length e a) (ho : o.op = .store t x y) (hx : slimX x = some sx) (hy : slimX y = some sy) (hn : sizeT P t = some n)
    {v : AV} {M' : Mem} {cl : FuncId → List AV → Mem → Option (AV × Mem)} (hev : (SOp.st n sx sy).ev cl e M = some (v, M')) : OpOk P o a w B w0 M.boxes.length G v M' := by
  obtain ⟨x1, x2⟩ := slimX_V hE hx
  obtain ⟨y1, y2⟩ := slimX_V hE hy
  simp only [SOp.ev] at hev
  split at hev
  · rename_i b k hxv
    split at hev
    · rename_i cs hb
      split at hev
      · rename_i hc
        obtain ⟨c1, c3⟩ := hc
        simp only [Option.some.injEq, Prod.mk.injEq] at hev
        obtain ⟨rfl, rfl⟩ := hev
        obtain ⟨e1, e2, e3⟩ := okE_inv c1
        rw [hxv] at x1
        obtain ⟨s1, s2⟩ := y1.cells e3
        have hlt := getElem?_lt hb
        obtain ⟨hc1, hc2⟩ := hI.box b cs hb
        have hst := run_storeCells_cells (P := P) (G.ρ b) k (a.eval y).cells.toList 0 w (fun j hj => by
            have hj' : j < (a.eval y).cells.size := by simpa using hj
            obtain ⟨z, q1, q2, _⟩ := hc2 (k + j) _ (List.getElem?_eq_getElem (by omega))
            simp [q1]) (fun j hj => by
            have hj' : j < (a.eval y).cells.size := by simpa using hj
            obtain ⟨z, q1, q2, _⟩ := hc2 (k + j) _ (List.getElem?_eq_getElem (by omega))
            simpa using q2) (fun u hu => by
            obtain ⟨j, hj, rfl⟩ := List.getElem_of_mem hu
            have hj' : j < (a.eval y).cells.size := by simpa using hj
            have hlen : j < (sy.ev e).cells.length := by omega
            have hV := s2 j _ (List.getElem?_eq_getElem hlen)
            have := hV.one (e2 _ (List.getElem_mem hlen))
            simpa [Array.getD, hj'] using this)
        simp only [Nat.add_zero] at hst
        refine ⟨undef, _, G, .inr ⟨?_, rfl⟩, Goes.refl .., hI.store hb ⟨s1, s2⟩ (by omega) (bdL_of (bd_cells y2)), .any _, rfl, by simp⟩
        unfold execOp; rw [ho]; simp only [x1.ptr_inv]
        have : (a.eval y).cells.size = n := by omega
        simp [Instr.storeAt, Instr.sureAddr, storeVar, run_sizeOf hn, this, hst]
      · cases hev
    · cases hev
  · cases hev
end
end Go.AM

namespace Go.AM
open AV Go.RowKit

section
variable {P : Program} {B : Nat} {w0 : World} {G : Gh} {M : Mem} {w : World} {a : Act} {e : Env} {o : Oper}

/-- A token's array lies in a new block. -/
theorem Inv.newArr {w' : World} (hI : Inv B w0 G M w) (hw : Below w.heap.size w w') {blk t sz cap : Nat} {xs : List AV} {arr : Array Value} {toks' : List (Nat × Nat)}
    (hb1 : w.heap.size ≤ blk) (hb2 : blk < w'.heap.size)
    (hcells : ∀ j, j < cap * sz → w'.cell? ⟨blk, j, none⟩ = some (arr.getD j undef) ∧ w'.frozen? ⟨blk, j, none⟩ = false)
    (hsz : ∀ x ∈ xs, x.known = true ∧ x.cells.length = sz) (hcap : xs.length ≤ cap) (hz : 0 < sz ∨ t = M.toks.length)
    (hV : ∀ j c, (flat xs)[j]? = some c → V G c (arr.getD j undef)) (hbd : bdL M.boxes.length xs = true)
    (ht : (t = M.toks.length ∧ toks' = M.toks ++ [(xs.length, sz)]) ∨ (∃ m, M.toks[t]? = some (m, sz) ∧ m < xs.length ∧ toks' = M.toks.set t (xs.length, sz))) :
    ∃ G', Goes B M.boxes.length G G' ∧ Inv B w0 G' ⟨M.boxes, toks'⟩ w' ∧ V G' (.sl (.ow t) xs) (.slice (some ⟨blk, 0, none⟩) xs.length cap) := by
  have hI1 := hI.of_below hw
  have hf := hI.fresh hb1
  have hflen := flat_len (fun x hx => (hsz x hx).2)
  have hle : xs.length * sz ≤ cap * sz := Nat.mul_le_mul_right _ hcap
  have hB := hI.hB
  have hτn : G.τ t xs.length = none := by
    cases hq : G.τ t xs.length with
    | none => rfl
    | some q =>
      obtain ⟨b', c', s'⟩ := q
      obtain ⟨⟨m, s1, h1, -, h2⟩, -⟩ := hI.tokv t _ b' c' s' hq
      rcases ht with ⟨rfl, -⟩ | ⟨m', h3, h4, -⟩
      · have := getElem?_lt h1; omega
      · rw [h3] at h1; simp at h1; omega
  obtain ⟨q1, q2⟩ := hI1.addArr (blk := blk) (o1 := 0) (o2 := xs.length * sz) (t := t) (n := xs.length) (cap := cap) (sz := sz) (vs := fun j => arr.getD j undef) (toks' := toks')
    (by omega) hb2 (fun o _ => hf.β o) hf.ρ (fun t' l q hq hqb => absurd hqb (hf.τ t' l q hq)) hτn
    (by
      rcases ht with ⟨rfl, rfl⟩ | ⟨m, h1, h2, rfl⟩
      · simp
      · have := getElem?_lt h1; simp [this])
    (fun t' htt => by
      rcases ht with ⟨rfl, rfl⟩ | ⟨m, h1, h2, rfl⟩
      · rcases Nat.lt_trichotomy t' M.toks.length with h | h | h
        · rw [List.getElem?_append_left h]
        · exact absurd h htt
        · rw [List.getElem?_eq_none (by simp; omega), List.getElem?_eq_none (by omega)]
      · rw [List.getElem?_set_ne (Ne.symm htt)])
    (fun m sz' hm => by
      rcases ht with ⟨rfl, rfl⟩ | ⟨m', h1, h2, rfl⟩
      · have := getElem?_lt hm; omega
      · rw [h1] at hm; simp only [Option.some.injEq, Prod.mk.injEq] at hm; omega)
    (hz.imp_right fun h => by rw [h]; exact List.getElem?_eq_none (Nat.le_refl _))
    rfl (Nat.zero_le _) hcap
    (fun j _ hj => (hcells j (by omega)).1) (fun j hj => (hcells j (by omega)).2)
    (fun j hj1 hj2 => ⟨by rw [(hcells j hj2).1]; rfl, (hcells j hj2).2⟩)
  refine ⟨_, q2, q1, .sl (.ow t) xs _ _ cap sz blk 0 (fun j => arr.getD j undef) rfl hcap hsz (fun _ => rfl) (fun j hj => ?_) (fun j c hc => ?_) (fun h => by cases h) (fun i hi => ?_)⟩
  · simp only [Gh.addArr, Nat.zero_add]
    rw [if_pos ⟨trivial, Nat.zero_le _, by omega⟩]
  · exact (hV j c hc).mono q2.le (bd_flat hbd c (getElem?_mem' hc))
  · cases hi
    exact ⟨rfl, rfl, some cap, by simp [Gh.addArr], fun k hk => by simpa using hk.symm⟩

theorem cell_new (w : World) (arr : Array Value) (t : TypeId) (j : Nat) (hj : j < arr.size) :
    (w.alloc (.cells arr t)).cell? ⟨w.heap.size, j, none⟩ = some (arr.getD j undef) ∧ (w.alloc (.cells arr t)).frozen? ⟨w.heap.size, j, none⟩ = false := by
  constructor
  · simp [hj]
  · simp

/-! ### A literal -/
def partsX (sz : Nat) : Nat → List X → List (Nat × Nat × X)
  | _, [] => []
  | k, x :: r => (k * sz, sz, x) :: partsX sz (k + 1) r
def cellsX (sz : Nat) : Nat → List AV → List (Nat × List AV)
  | _, [] => []
  | k, v :: r => (k * sz, v.cells) :: cellsX sz (k + 1) r

theorem slimParts_range (sz : Nat) : ∀ {parts : List (Nat × Operand)} {xs : List X} (k : Nat), parts.map (·.1) = List.range' k parts.length → slimXs (parts.map (·.2)) = some xs →
    slimParts (fun i => some (i * sz, sz)) parts = some (partsX sz k xs)
  | [], xs, k, _, h => by cases h; rfl
  | (i, x) :: r, xs, k, h1, h2 => by
    simp only [List.map_cons, List.length_cons, List.range'_succ, List.cons.injEq] at h1
    simp only [List.map_cons, slimXs] at h2
    split at h2
    · rename_i y l hy hl
      obtain rfl := Option.some.inj h2
      have := slimParts_range sz (k + 1) h1.2 hl
      simp only [slimParts, hy, this, partsX, h1.1]
    · cases h2
theorem evP_parts (sz : Nat) : ∀ {xs : List X} (k : Nat), (evL e xs).all (okE sz) = true → evP e (partsX sz k xs) = some (cellsX sz k (evL e xs))
  | [], _, _ => rfl
  | x :: r, k, h => by
    simp only [evL, List.all_cons, Bool.and_eq_true] at h
    obtain ⟨h1, h2, h3⟩ := okE_inv h.1
    simp only [partsX, evP, evL, cellsX, evP_parts sz (k + 1) h.2]
    rw [if_pos ⟨h3, h1⟩]; rfl
theorem fillA_cells (sz : Nat) : ∀ {ys : List AV} (k : Nat) (pre rest : List AV), (∀ y ∈ ys, y.cells.length = sz) → pre.length = k * sz → rest.length = ys.length * sz →
    fillA (pre ++ rest) (cellsX sz k ys) = some (pre ++ flat ys)
  | [], k, pre, rest, _, _, h => by
    have : rest = [] := List.eq_nil_of_length_eq_zero (by simpa using h)
    subst this; simp [cellsX, fillA, flat]
  | y :: r, k, pre, rest, hy, h1, h2 => by
    have hys := hy y (List.mem_cons_self ..)
    simp only [List.length_cons, Nat.add_mul, Nat.one_mul] at h2
    simp only [cellsX, fillA]
    rw [if_pos (by simp; omega)]
    have hl : lay (pre ++ rest) (k * sz) y.cells = (pre ++ y.cells) ++ rest.drop sz := by
      unfold lay
      rw [← h1, List.take_left, hys, List.drop_append, List.drop_eq_nil_of_le (by omega), List.nil_append]
      congr 2; omega
    rw [hl, fillA_cells sz (k + 1) (pre ++ y.cells) (rest.drop sz) (fun z hz => hy z (List.mem_cons_of_mem _ hz)) (by simp [h1, hys, Nat.add_mul]) (by simp; omega)]
    simp [flat, List.append_assoc]

theorem ok_bs {t e' : TypeId} {len : Nat} {parts : Array (Nat × Operand)} {i : TypeInfo} {xs : List X} (hI : Inv B w0 G M w) (hE : VE G M.boxes.length e a) (ho : o.op = .buildSlice t len parts)
    (hu : P.underlying t = some (.slice e')) (hi : P.info? e' = some i) (hx : slimXs (parts.toList.map (·.2)) = some xs)
    (hr : parts.toList.map (·.1) = List.range len) (hbig : len * i.size ≤ 16777216) (hz : ∃ z, i.zero = some z)
    {v : AV} {M' : Mem} {cl : FuncId → List AV → Mem → Option (AV × Mem)} (hev : (SOp.bs i.size xs).ev cl e M = some (v, M')) : OpOk P o a w B w0 M.boxes.length G v M' := by
  simp only [SOp.ev] at hev
  split at hev
  · rename_i hall
    simp only [Option.some.injEq, Prod.mk.injEq] at hev
    obtain ⟨rfl, rfl⟩ := hev
    obtain ⟨z, hz⟩ := hz
    obtain ⟨h1, h2, h3, h4⟩ := slimXs_V hE hx
    have hlen : parts.toList.length = len := by have := congrArg List.length hr; simpa using this
    have hxl : xs.length = len := by rw [h2]; simpa using hlen
    have hel : (evL e xs).length = len := by rw [h1]; simpa using hlen
    have hok : ∀ y ∈ evL e xs, y.known = true ∧ y.cells.length = i.size := fun y hy => by
      have := okE_inv (List.all_eq_true.1 hall y hy); exact ⟨this.2.2, this.1⟩
    have hpr : parts.toList.map (·.1) = List.range' 0 parts.toList.length := by rw [hr, hlen, List.range_eq_range']
    have hsp := slimParts_range i.size 0 hpr hx
    have hep := evP_parts (e := e) i.size 0 hall
    have hfa := fillA_cells i.size (ys := evL e xs) 0 [] (List.replicate (len * i.size) .any) (fun y hy => (hok y hy).2) (by simp) (by simp [hel])
    simp only [List.nil_append] at hfa
    let zero : Array Value := if len * i.size = 0 then #[] else z.cells
    let arr0 : Array Value := (Array.range (len * i.size)).map (zero[· % zero.size]!)
    have hV0 : Vs G (List.replicate (len * i.size) .any) arr0 := ⟨by simp [arr0], fun j c hc => by
      rw [List.getElem?_replicate] at hc; split at hc
      · cases hc; exact .any _
      · cases hc⟩
    obtain ⟨arr, q1, q2, q3⟩ := fill_V hE hsp hep hfa hV0 (bdL_of fun c hc => by rw [(List.mem_replicate.1 hc).2]; rfl)
    have hmap : (parts.map fun (i, x) => (i, a.eval x)).toList = parts.toList.map fun p => (p.1, a.eval p.2) := by simp
    have hrun : (execOp a.eval o).run P w = .ok (.value (.slice (some ⟨w.heap.size, 0, none⟩) len len)) (w.alloc (.cells arr e')) := by
      unfold execOp; rw [ho]
      have hbig' : ¬ (len * i.size > 2 ^ 24) := by have : (2 : Nat) ^ 24 = 16777216 := by decide
                                                   omega
      simp only [Sem.run_bind, Instr.buildSlice, run_underlying hu, Result.andThen_ok, run_sizeOf (show sizeT P e' = some i.size by simp [sizeT, hi]), if_neg hbig', hmap]
      by_cases h0 : len * i.size = 0
      · have q1' := q1
        simp only [arr0, zero, if_pos h0] at q1'
        simp only [if_pos h0, Sem.run_bind, Sem.run_pure, Result.andThen_ok]
        rw [q1']
        simp [newRow]
      · have q1' := q1
        simp only [arr0, zero, if_neg h0] at q1'
        simp only [if_neg h0, Sem.run_bind, Sem.run_pure, Result.andThen_ok, zeroValue, typeInfo, run_program, hi, hz]
        rw [q1']
        simp [newRow]
    have hflat : (flat (evL e xs)).length = len * i.size := by rw [flat_len (fun y hy => (hok y hy).2), hel]
    have hasz : arr.size = len * i.size := by rw [q2.1, hflat]
    obtain ⟨G', g1, g2, g3⟩ := hI.newArr (w' := w.alloc (.cells arr e')) ((Below.refl _ _).alloc (Nat.le_refl _) _) (blk := w.heap.size) (t := M.toks.length) (sz := i.size) (cap := len) (xs := evL e xs) (arr := arr)
      (toks' := M.toks ++ [((evL e xs).length, i.size)]) (Nat.le_refl _) (by simp) (fun j hj => cell_new w arr e' j (by omega)) hok (by omega) (.inr rfl) q2.2 h4 (.inl ⟨rfl, rfl⟩)
    rw [hel] at g3 g2
    refine ⟨_, _, G', .inl hrun, g1, by rw [hxl]; exact g2, g3, by simpa only [bd] using h4, Nat.le_refl _⟩
  · cases hev

/-- A literal without elements. -/
theorem ok_be {t e' : TypeId} {parts : Array (Nat × Operand)} {i : TypeInfo} (hI : Inv B w0 G M w) (ho : o.op = .buildSlice t 0 parts)
    (hu : P.underlying t = some (.slice e')) (hi : P.info? e' = some i) (hr : parts.toList.map (·.1) = List.range 0) (hz : ∃ z, i.zero = some z)
    {v : AV} {M' : Mem} {cl : FuncId → List AV → Mem → Option (AV × Mem)} (hev : (SOp.be).ev cl e M = some (v, M')) : OpOk P o a w B w0 M.boxes.length G v M' := by
  simp only [SOp.ev, Option.some.injEq, Prod.mk.injEq] at hev
  obtain ⟨rfl, rfl⟩ := hev
  have hp : parts = #[] := by
    have := congrArg List.length hr
    simp at this
    exact this
  subst hp
  have hrun : (execOp a.eval o).run P w = .ok (.value (.slice (some ⟨w.heap.size, 0, none⟩) 0 0)) (w.alloc (.cells #[] e')) := by
    unfold execOp; rw [ho]
    simp [Sem.run_bind, Instr.buildSlice, run_underlying hu, Result.andThen_ok, run_sizeOf (show sizeT P e' = some i.size by simp [sizeT, hi]), newRow, Instr.fill]
    congr 2
    apply Array.eq_empty_of_size_eq_zero
    simp
  refine ⟨_, _, G, .inl hrun, Goes.refl .., hI.of_below ((Below.refl _ _).alloc (Nat.le_refl _) _), ?_, rfl, Nat.le_refl _⟩
  exact .sl .nl [] _ 0 0 0 0 0 (fun _ => undef) rfl (Nat.le_refl _) (fun _ h => by cases h) (fun h => absurd rfl h) (fun j hj => by simp [flat] at hj) (fun j c hc => by simp [flat] at hc) (fun _ => rfl) (fun i h => by cases h)

theorem rep_V {za : AV} {z : Value} {sz n : Nat} (hza : Vs G za.cells z.cells) (hk : za.known = true) (hs : sz = za.cells.length) (hs0 : 0 < sz) :
    Vs G (flat (List.replicate n za)) ((Array.range (n * sz)).map (z.cells[· % z.cells.size]!)) := by
  have hok : ∀ y ∈ List.replicate n za, y.cells.length = sz := fun y hy => by rw [(List.mem_replicate.1 hy).2]; exact hs.symm
  have hzs : z.cells.size = za.cells.length := hza.1
  refine ⟨by rw [flat_len hok]; simp, fun j c hcc => ?_⟩
  have hj := getElem?_lt hcc
  rw [flat_len hok] at hj
  simp at hj
  have hdm : j = (j / sz) * sz + j % sz := by rw [Nat.mul_comm]; exact (Nat.div_add_mod j sz).symm
  have hlt : j / sz < n := Nat.div_lt_of_lt_mul (by rw [Nat.mul_comm]; exact hj)
  have hmod : j % sz < za.cells.length := by rw [← hs]; exact Nat.mod_lt _ hs0
  have hg := flat_get (sz := sz) (xs := List.replicate n za) hok (i := j / sz) (x := za) (by simp [hlt]) (j := j % sz) (c := za.cells[j % sz]) (List.getElem?_eq_getElem hmod)
  rw [← hdm, hcc] at hg
  obtain rfl := Option.some.inj hg
  have hV := hza.2 _ _ (List.getElem?_eq_getElem hmod)
  have hm2 : j % sz < z.cells.size := by omega
  have harr : ((Array.range (n * sz)).map (z.cells[· % z.cells.size]!)).getD j undef = z.cells.getD (j % sz) undef := by
    have h1 : j < ((Array.range (n * sz)).map (z.cells[· % z.cells.size]!)).size := by simpa using hj
    have hmm : j % z.cells.size = j % sz := by rw [hzs, hs]
    have h2 : ((Array.range (n * sz)).map (z.cells[· % z.cells.size]!))[j]'h1 = z.cells[j % z.cells.size]! := by simp only [Array.getElem_map, Array.getElem_range]
    have h3 : z.cells[j % z.cells.size]! = z.cells.getD (j % sz) undef := by
      rw [hmm, getElem!_pos z.cells (j % sz) hm2]
      simp [Array.getD, hm2]
    rw [← h3, ← h2]
    simp only [Array.getD, h1, dite_true]
    rfl
  rw [harr]; exact hV

theorem ok_mkb {t e' : TypeId} {x : Operand} {sx : X} {i : TypeInfo} {z : Value} {za : AV} (hI : Inv B w0 G M w) (hE : VE G M.boxes.length e a) (ho : o.op = .makeSlice t x x) (hx : slimX x = some sx)
    (hu : P.underlying t = some (.slice e')) (hi : P.info? e' = some i) (hz : i.zero = some z) (hza : Vs G za.cells z.cells ∧ ∀ n, bdL n za.cells = true) (hk : za.known = true) (hs : i.size = za.cells.length) (hs0 : 0 < i.size)
    {v : AV} {M' : Mem} {cl : FuncId → List AV → Mem → Option (AV × Mem)} (hev : (SOp.mkb za i.bytes sx).ev cl e M = some (v, M')) : OpOk P o a w B w0 M.boxes.length G v M' := by
  obtain ⟨x1, x2⟩ := slimX_V hE hx
  simp only [SOp.ev] at hev
  split at hev
  · rename_i k n hxv
    split at hev
    · rename_i hc
      obtain ⟨c1, c3, c4⟩ := hc
      simp only [Option.some.injEq, Prod.mk.injEq] at hev
      obtain ⟨rfl, rfl⟩ := hev
      rw [hxv] at x1
      have hzs : z.cells.size = za.cells.length := hza.1.1
      have wn : IntKind.i64.wrap n = n := by rw [IntKind.wrap_i64]; omega
      let arr : Array Value := (Array.range (n.toNat * i.size)).map (z.cells[· % z.cells.size]!)
      have hcb : ¬ ((i.bytes : Int) * n > 2 ^ 48) := by
        have e1 : (2 : Int) ^ 48 = 281474976710656 := by decide
        rw [e1, Int.mul_comm]; omega
      have hrun : (execOp a.eval o).run P w = .ok (.value (.slice (some ⟨w.heap.size, 0, none⟩) n.toNat n.toNat)) (w.alloc (.cells arr e')) := by
        unfold execOp; rw [ho]; simp only [x1.int_inv]
        have d1 : ¬ (n < 0) := by omega
        have d3 : ¬ (n > n) := by omega
        have hcond : (decide (n < 0) || decide ((i.bytes : Int) * n > 2 ^ 48) || decide (n < 0) || decide (n > n)) = false := by simp only [Bool.or_eq_false_iff, decide_eq_false_iff_not]; exact ⟨⟨⟨d1, hcb⟩, d1⟩, d3⟩
        simp only [Sem.run_bind, Instr.makeSlice, run_underlying hu, Result.andThen_ok, asInt, asIntOf, Sem.run_pure, typeInfo, run_program, hi, wn, Sem.run_ite]
        simp only [Bool.or_assoc] at hcond ⊢
        rw [if_neg (by simp only [hcond, Bool.false_eq_true, not_false_eq_true])]
        simp only [run_askRoom, Result.andThen_ok, sizeOf, typeInfo, Sem.run_bind, run_program, hi, Sem.run_pure]
        by_cases h0 : n.toNat * i.size = 0
        · have : n.toNat = 0 := by
            rcases Nat.mul_eq_zero.1 h0 with h | h
            · exact h
            · omega
          have ea : arr = #[] := by simp [arr, this]
          rw [ea]
          have er : (Array.range 0 : Array Nat) = #[] := rfl
          simp [h0, newRow, er]
        · simp only [if_neg h0]
          simp [zeroValue, typeInfo, hi, hz, newRow, arr]
      have hV : Vs G (flat (List.replicate n.toNat za)) arr := rep_V hza.1 hk hs hs0
      have hbd : bdL M.boxes.length (flat (List.replicate n.toNat za)) = true := bdL_of fun c hc => by
        obtain ⟨y, hy, hc⟩ := List.mem_flatMap.1 hc
        rw [(List.mem_replicate.1 hy).2] at hc
        exact bdL_mem (hza.2 _) c hc
      have hI1 := hI.of_below (w' := w.alloc (.cells arr e')) ((Below.refl _ _).alloc (Nat.le_refl _) _)
      obtain ⟨q1, q2, q3⟩ := hI1.addBox (blk := w.heap.size) (hI.fresh (Nat.le_refl _)) hI.hB (by simp) hbd (fun j c hc => by
        have hj : j < arr.size := by rw [hV.1]; exact getElem?_lt hc
        exact ⟨arr.getD j undef, (cell_new w arr e' j hj).1, (cell_new w arr e' j hj).2, hV.2 j c hc⟩)
      refine ⟨_, _, _, .inl hrun, q2, q1, .bsl _ _ _ _ _ _ _ (Nat.le_refl _) fun _ => ?_, ?_, ?_⟩
      · rw [q3]
      · simp [bd]
      · simp
    · cases hev
  · cases hev

theorem ok_clr {t e' : TypeId} {c : Call} {sx : X} {i : TypeInfo} {zs : List AV} (hI : Inv B w0 G M w) (hE : VE G M.boxes.length e a) (ho : o.op = .call c) (hc : c.callee = .builtin .clear) (ht : c.argTypes[0]? = some t) (hu : P.underlying t = some (.slice e'))
    (ha : slimXs c.args.toList = some [sx]) (hi : P.info? e' = some i) (hz : zeroT P e' = some zs) (hs : i.size = zs.length) (hs0 : 0 < zs.length)
    {v : AV} {M' : Mem} {cl : FuncId → List AV → Mem → Option (AV × Mem)} (hev : (SOp.clr zs sx).ev cl e M = some (v, M')) : OpOk P o a w B w0 M.boxes.length G v M' := by
  obtain ⟨y, h1, h2, h3⟩ := one_arg hE ha
  simp only [SOp.ev] at hev
  split at hev
  rotate_left
  · cases hev
  rename_i b k n sz ag hxv
  split at hev
  rotate_left
  · cases hev
  rename_i cs hb
  split at hev
  rotate_left
  · cases hev
  rename_i hcc
  obtain ⟨rfl, hlen⟩ := hcc
  simp only [Option.some.injEq, Prod.mk.injEq] at hev
  obtain ⟨rfl, rfl⟩ := hev
  rw [hxv] at h2
  obtain ⟨p, cap, rfl, hcap, hp⟩ := h2.bsl_inv
  unfold zeroT at hz
  rw [hi] at hz
  simp only at hz
  split at hz
  rotate_left
  · cases hz
  rename_i z hz'
  obtain ⟨z1, z2⟩ := toAVs_Vs hz G
  have hone := toAVs_one hz
  have hV : Vs G (flat (List.replicate n (.agg zs))) ((Array.range (n * zs.length)).map (z.cells[· % z.cells.size]!)) := rep_V (za := .agg zs) z1 rfl rfl hs0
  have hVl : (flat (List.replicate n (AV.agg zs))).length = n * zs.length := by
    rw [flat_len (sz := zs.length) (fun q hq => by rw [(List.mem_replicate.1 hq).2]; rfl)]; simp
  have hmem : ∀ q ∈ flat (List.replicate n (AV.agg zs)), q ∈ zs := fun q hq => by
    obtain ⟨u, hu, hq⟩ := List.mem_flatMap.1 hq
    rw [(List.mem_replicate.1 hu).2] at hq
    exact hq
  have hsz : z.cells.size = zs.length := z1.1
  have hzc : Go.Builtin.zeroCells z.cells n = (Array.range (n * zs.length)).map (z.cells[· % z.cells.size]!) := by unfold Go.Builtin.zeroCells; rw [hsz]
  obtain ⟨hc1, hc2⟩ := hI.box b cs hb
  have hbdz : bdL M.boxes.length (flat (List.replicate n (AV.agg zs))) = true := bdL_of fun q hq => bdL_mem (z2 _) q (hmem q hq)
  rcases Nat.eq_zero_or_pos n with hn | hn
  · subst hn
    have e0 : flat (List.replicate 0 (AV.agg zs)) = [] := rfl
    have hset : M.boxes.set b (lay cs k []) = M.boxes := by
      apply List.ext_getElem?
      intro j
      rw [List.getElem?_set]
      split
      · rename_i hj
        subst hj
        rw [if_pos (getElem?_lt hb), hb]
        simp only [lay, List.length_nil, Nat.add_zero, List.append_nil, List.take_append_drop]
      · rfl
    rw [e0, hset]
    refine ⟨.tuple #[], w, G, .inl ?_, Goes.refl .., hI, .any _, rfl, Nat.le_refl _⟩
    · unfold execOp; rw [ho]
      cases p <;> simp [resolve, hc, h1, invoke, builtin, Builtin.clear_, ht, run_underlying hu]
  · have hst := run_storeCells_cells (P := P) (G.ρ b) k ((Array.range (n * zs.length)).map (z.cells[· % z.cells.size]!)).toList 0 w (fun j hj => by
      have hj' : j < n * zs.length := by simpa using hj
      obtain ⟨u, q1, q2, _⟩ := hc2 (k + j) _ (List.getElem?_eq_getElem (by omega))
      simp [q1]) (fun j hj => by
      have hj' : j < n * zs.length := by simpa using hj
      obtain ⟨u, q1, q2, _⟩ := hc2 (k + j) _ (List.getElem?_eq_getElem (by omega))
      simpa using q2) (fun u hu => by
      obtain ⟨j, hj, rfl⟩ := List.getElem_of_mem hu
      have hj' : j < n * zs.length := by simpa using hj
      have hjf : j < (flat (List.replicate n (AV.agg zs))).length := by omega
      have h5 := hV.2 j _ (List.getElem?_eq_getElem hjf)
      have h6 := h5.one (hone _ (hmem _ (List.getElem_mem hjf)))
      rw [Array.getD_eq_getD_getElem?, Array.getElem?_eq_getElem (by simpa using hj'), Option.getD_some] at h6
      simpa using h6)
    simp only [Nat.add_zero] at hst
    refine ⟨.tuple #[], _, G, .inl ?_, Goes.refl .., hI.store hb hV (by omega) hbdz, .any _, rfl, by simp⟩
    unfold execOp; rw [ho]
    obtain ⟨n', rfl⟩ : ∃ n', n = n' + 1 := ⟨n - 1, by omega⟩
    simp only [hp (by omega)] at h1 ⊢
    simp only [Array.toList_map, Array.toList_range] at hst ⊢
    simp [resolve, hc, h1, invoke, builtin, Builtin.clear_, ht, run_underlying hu, zeroValue, typeInfo, hi, hz', hzc, hst]

theorem ok_mk {t e' : TypeId} {x y : Operand} {sx sy : X} {i : TypeInfo} {z : Value} {za : AV} (hI : Inv B w0 G M w) (hE : VE G M.boxes.length e a) (ho : o.op = .makeSlice t x y) (hx : slimX x = some sx) (hy : slimX y = some sy)
    (hu : P.underlying t = some (.slice e')) (hi : P.info? e' = some i) (hz : i.zero = some z) (hza : Vs G za.cells z.cells ∧ ∀ n, bdL n za.cells = true) (hk : za.known = true) (hbz : ∀ n, bd n za = true) (hs : i.size = za.cells.length) (hs0 : 0 < i.size)
    {v : AV} {M' : Mem} {cl : FuncId → List AV → Mem → Option (AV × Mem)} (hev : (SOp.mk za i.bytes sx sy).ev cl e M = some (v, M')) : OpOk P o a w B w0 M.boxes.length G v M' := by
  obtain ⟨x1, x2⟩ := slimX_V hE hx
  obtain ⟨y1, y2⟩ := slimX_V hE hy
  simp only [SOp.ev] at hev
  split at hev
  · rename_i k n k' c hxv hyv
    split at hev
    · rename_i hc
      obtain ⟨c1, c2, c3, c4⟩ := hc
      simp only [Option.some.injEq, Prod.mk.injEq] at hev
      obtain ⟨rfl, rfl⟩ := hev
      rw [hxv] at x1
      rw [hyv] at y1
      have hzs : z.cells.size = za.cells.length := hza.1.1
      have wn : IntKind.i64.wrap n = n := by rw [IntKind.wrap_i64]; omega
      have wc : IntKind.i64.wrap c = c := by rw [IntKind.wrap_i64]; omega
      let arr : Array Value := (Array.range (c.toNat * i.size)).map (z.cells[· % z.cells.size]!)
      have hcb : ¬ ((i.bytes : Int) * c > 2 ^ 48) := by
        have e1 : (2 : Int) ^ 48 = 281474976710656 := by decide
        rw [e1, Int.mul_comm]; omega
      have hrun : (execOp a.eval o).run P w = .ok (.value (.slice (some ⟨w.heap.size, 0, none⟩) n.toNat c.toNat)) (w.alloc (.cells arr e')) := by
        unfold execOp; rw [ho]; simp only [x1.int_inv, y1.int_inv]
        have d1 : ¬ (c < 0) := by omega
        have d2 : ¬ (n < 0) := by omega
        have d3 : ¬ (n > c) := by omega
        have hcond : (decide (c < 0) || decide ((i.bytes : Int) * c > 2 ^ 48) || decide (n < 0) || decide (n > c)) = false := by simp only [Bool.or_eq_false_iff, decide_eq_false_iff_not]; exact ⟨⟨⟨d1, hcb⟩, d2⟩, d3⟩
        simp only [Sem.run_bind, Instr.makeSlice, run_underlying hu, Result.andThen_ok, asInt, asIntOf, Sem.run_pure, typeInfo, run_program, hi, wn, wc, Sem.run_ite]
        simp only [Bool.or_assoc] at hcond ⊢
        rw [if_neg (by simp only [hcond, Bool.false_eq_true, not_false_eq_true])]
        simp only [run_askRoom, Result.andThen_ok, sizeOf, typeInfo, Sem.run_bind, run_program, hi, Sem.run_pure]
        by_cases h0 : c.toNat * i.size = 0
        · have : c.toNat = 0 := by
            rcases Nat.mul_eq_zero.1 h0 with h | h
            · exact h
            · omega
          have ea : arr = #[] := by simp [arr, this]
          rw [ea]
          have er : (Array.range 0 : Array Nat) = #[] := rfl
          simp [h0, newRow, er]
        · simp only [if_neg h0]
          simp [zeroValue, typeInfo, hi, hz, newRow, arr]
      have hnc : n.toNat ≤ c.toNat := by omega
      have hok : ∀ y ∈ List.replicate n.toNat za, y.known = true ∧ y.cells.length = i.size := fun y hy => by rw [(List.mem_replicate.1 hy).2]; exact ⟨hk, hs.symm⟩
      have hasz : arr.size = c.toNat * i.size := by simp [arr]
      obtain ⟨G', g1, g2, g3⟩ := hI.newArr (w' := w.alloc (.cells arr e')) ((Below.refl _ _).alloc (Nat.le_refl _) _) (blk := w.heap.size) (t := M.toks.length) (sz := i.size) (cap := c.toNat) (xs := List.replicate n.toNat za) (arr := arr)
        (toks' := M.toks ++ [((List.replicate n.toNat za).length, i.size)]) (Nat.le_refl _) (by simp) (fun j hj => cell_new w arr e' j (by omega)) hok (by simpa using hnc) (.inr rfl)
        (fun j cc hcc => by
          have hj := getElem?_lt hcc
          rw [flat_len (fun y hy => (hok y hy).2)] at hj
          simp at hj
          have hdm : j = (j / i.size) * i.size + j % i.size := by rw [Nat.mul_comm]; exact (Nat.div_add_mod j i.size).symm
          have hlt : j / i.size < n.toNat := Nat.div_lt_of_lt_mul (by rw [Nat.mul_comm]; exact hj)
          have hmod : j % i.size < za.cells.length := by rw [← hs]; exact Nat.mod_lt _ hs0
          have hg := flat_get (sz := i.size) (xs := List.replicate n.toNat za) (fun y hy => (hok y hy).2) (i := j / i.size) (x := za) (by simp [hlt]) (j := j % i.size) (c := za.cells[j % i.size]) (List.getElem?_eq_getElem hmod)
          rw [← hdm, hcc] at hg
          obtain rfl := Option.some.inj hg
          have hV := hza.1.2 _ _ (List.getElem?_eq_getElem hmod)
          have hjc : j < c.toNat * i.size := Nat.lt_of_lt_of_le hj (Nat.mul_le_mul_right _ hnc)
          have hm2 : j % i.size < z.cells.size := by omega
          have harr : arr.getD j undef = z.cells.getD (j % i.size) undef := by
            have h1 : j < arr.size := by omega
            have hmm : j % z.cells.size = j % i.size := by rw [hzs, hs]
            have h2 : arr[j]'h1 = z.cells[j % z.cells.size]! := by simp only [arr, Array.getElem_map, Array.getElem_range]
            have h3 : z.cells[j % z.cells.size]! = z.cells.getD (j % i.size) undef := by
              rw [hmm, getElem!_pos z.cells (j % i.size) hm2]
              simp [Array.getD, hm2]
            rw [← h3, ← h2]
            simp [Array.getD, h1]
          rw [harr]; exact hV)
        (bdL_of fun y hy => by rw [(List.mem_replicate.1 hy).2]; exact hbz _) (.inl ⟨rfl, rfl⟩)
      simp only [List.length_replicate] at g2 g3
      refine ⟨_, _, G', .inl hrun, g1, by rw [← hs]; exact g2, g3, ?_, Nat.le_refl _⟩
      simp only [bd]
      exact bdL_of fun y hy => by rw [(List.mem_replicate.1 hy).2]; exact hbz _
    · cases hev
  · cases hev
end
end Go.AM

namespace Go.AM
open AV Go.RowKit

section
variable {P : Program} {B : Nat} {w0 : World} {G : Gh} {M : Mem} {w : World} {a : Act} {e : Env} {o : Oper}

theorem run_append_fits' {t u ty e' : TypeId} {i : TypeInfo} (ht : P.underlying t = some (.slice e')) (hi : P.info? e' = some i) {d : TypeDesc} (hu : P.underlying u = some d) (hd : ∀ k, d ≠ .int k)
    {blk n cap m : Nat} {y : Value} {news : Array Value} (hm : (Builtin.lenOf y).run P w = .ok m w) (hnews : (Builtin.firstCells i.size m y).run P w = .ok news w) (hfit : n + m ≤ cap)
    (hst : (storeCells ⟨blk, n * i.size, none⟩ news.toList).run P w = .ok () (w.setCells blk (n * i.size) news.toList)) :
    (Builtin.append_ #[t, u] ty #[.slice (some ⟨blk, 0, none⟩) n cap, y]).run P w = .ok (.slice (some ⟨blk, 0, none⟩) (n + m) cap) (w.setCells blk (n * i.size) news.toList) := by
  have hz : (match d with | .int _ => true | _ => false) = false := by cases d <;> first | rfl | exact absurd rfl (hd _)
  simp [Builtin.append_, run_underlying ht, run_underlying hu, sizeOf, typeInfo, hi]
  cases d <;> first
    | exact absurd rfl (hd _)
    | simp [hm, hfit, hnews, Addr.add_plain, hst]

theorem run_append_grow' {t u ty e' : TypeId} {i : TypeInfo} {z : Value} (ht : P.underlying t = some (.slice e')) (hi : P.info? e' = some i) (hz : i.zero = some z) {d : TypeDesc} (hu : P.underlying u = some d) (hd : ∀ k, d ≠ .int k)
    {b : Option Addr} {n cap m : Nat} {y : Value} {olds news : Array Value} (hm : (Builtin.lenOf y).run P w = .ok m w) (hnews : (Builtin.firstCells i.size m y).run P w.drew = .ok news w.drew)
    (holds : (Builtin.firstCells i.size n (.slice b n cap)).run P w.drew = .ok olds w.drew) (hg : cap < n + m) (hb : (n + m) * i.bytes ≤ 140737488355328) (h0 : 0 < i.bytes) :
    (Builtin.append_ #[t, u] ty #[.slice b n cap, y]).run P w = .ok (.slice (some ⟨w.heap.size, 0, none⟩) (n + m) (grownCap w (n + m) cap e'))
      (w.drew.alloc (.cells (olds ++ news ++ Builtin.zeroCells z.cells (grownCap w (n + m) cap e' - (n + m))) e')) := by
  have hn : ¬ (n + m ≤ cap) := by omega
  have hle : n + m ≤ (n + m) * i.bytes := Nat.le_mul_of_pos_right _ h0
  have h63' : ¬ (9223372036854775807 < ((n : Int) + (m : Int))) := by omega
  have h48' : ¬ (281474976710656 < Builtin.nextslicecap (n + m) cap * i.bytes) := by have := growslice_fits hg hb; omega
  simp [Builtin.append_, run_underlying ht, run_underlying hu, sizeOf, typeInfo, hi]
  cases d <;> first
    | exact absurd rfl (hd _)
    | (simp [hm, hn, h63', h48', Question.forced, zeroValue, typeInfo, hi, hz, newRow]
       have holds' := holds
       have hnews' := hnews
       simp only [World.drew, Nat.add_zero] at holds' hnews'
       simp [holds, hnews, grownCap])

theorem run_append_zero {t u ty e' : TypeId} {i : TypeInfo} (ht : P.underlying t = some (.slice e')) (hi : P.info? e' = some i) {d : TypeDesc} (hu : P.underlying u = some d) (hd : ∀ k, d ≠ .int k)
    {b : Option Addr} {n cap : Nat} {y : Value} (hm : (Builtin.lenOf y).run P w = .ok 0 w) (hnews : (Builtin.firstCells i.size 0 y).run P w = .ok #[] w) (hfit : n ≤ cap) :
    (Builtin.append_ #[t, u] ty #[.slice b n cap, y]).run P w = .ok (.slice b n cap) w := by
  simp [Builtin.append_, run_underlying ht, run_underlying hu, sizeOf, typeInfo, hi]
  cases d <;> first
    | exact absurd rfl (hd _)
    | (simp [hm, hfit, hnews]; cases b <;> simp [storeCells])

theorem Inv.cell_of (hI : Inv B w0 G M w) {b k : Nat} {v : Value} (h : G.σ b k = some v) : w.cell? ⟨b, k, none⟩ = some v := hI.stab _ _ _ (hI.σβ _ _ _ h)

/-- The cells of a slice, loaded. -/
theorem sl_cells (hI : Inv B w0 G M w) {w' : World} (hw' : ∀ x, w'.cell? x = w.cell? x) {xs : List AV} {b : Option Addr} {cap sz blk off : Nat} {vs : Nat → Value}
    (hsz : ∀ y ∈ xs, y.known = true ∧ y.cells.length = sz) (ha : xs ≠ [] → b = some ⟨blk, off, none⟩) (hσ : ∀ j, j < (flat xs).length → G.σ blk (off + j) = some (vs j)) :
    ∀ c, (Builtin.firstCells sz xs.length (.slice b c cap)).run P w' = .ok ((List.range (flat xs).length).map vs).toArray w' := by
  intro c
  have hfl := flat_len (fun y hy => (hsz y hy).2)
  cases b with
  | none =>
    have hx : xs = [] := by
      rcases xs with _ | ⟨y, r⟩
      · rfl
      · exact absurd (ha (by simp)) (by simp)
    subst hx
    simp [Builtin.firstCells, flat]
  | some ad =>
    simp only [Builtin.firstCells]
    rcases Nat.eq_zero_or_pos (xs.length * sz) with h0 | h0
    · rw [hfl, h0]; simp [loadCells, loadCellsFrom]
    · have hne : xs ≠ [] := fun h => by rw [h] at h0; simp at h0
      have := ha hne
      simp only [Option.some.injEq] at this
      subst this
      rw [← hfl]
      exact run_loadCells w' _ _ _ fun j hj => by rw [Addr.add_plain, hw']; exact hI.cell_of (hσ j hj)

theorem getD_append (a b : Array Value) (j : Nat) : (a ++ b).getD j undef = if j < a.size then a.getD j undef else b.getD (j - a.size) undef := by
  simp only [Array.getD_eq_getD_getElem?, Array.getElem?_append]
  split <;> rfl

/-- What is appended: its elements and where they stand. -/
structure Src (P : Program) (w : World) (sz : Nat) (G : Gh) (ys : List AV) (y : Value) (news : Array Value) : Prop where
  len : ∀ w', (Builtin.lenOf y).run P w' = .ok ys.length w'
  first : ∀ w', (∀ x, w'.cell? x = w.cell? x) → (Builtin.firstCells sz ys.length y).run P w' = .ok news w'
  size : news.size = ys.length * sz
  V : ∀ j c, (flat ys)[j]? = some c → V G c (news.getD j undef)

theorem append_V {t u ty e' : TypeId} {i : TypeInfo} {z : Value} (hI : Inv B w0 G M w) (ht : P.underlying t = some (.slice e')) (hi : P.info? e' = some i) (hz : i.zero = some z) (hzs : z.cells.size = i.size) (h0 : 0 < i.bytes)
    {d : TypeDesc} (hu : P.underlying u = some d) (hd : ∀ k, d ≠ .int k)
    {tk : Tok} {xs ys : List AV} {x y : Value} {news : Array Value} (hx : V G (.sl tk xs) x) (hbx : bdL M.boxes.length xs = true) (hs : Src P w i.size G ys y news) (hby : bdL M.boxes.length ys = true)
    {v : AV} {M' : Mem} (hev : appA i.size i.bytes tk xs ys M = some (v, M')) :
    ∃ r w' G', (Builtin.append_ #[t, u] ty #[x, y]).run P w = .ok r w' ∧ Goes B M.boxes.length G G' ∧ Inv B w0 G' M' w' ∧ V G' v r ∧ bd M'.boxes.length v = true ∧ M.boxes.length ≤ M'.boxes.length := by
  unfold appA at hev
  split at hev
  rotate_left
  · cases hev
  rename_i hc
  obtain ⟨hall, hbytes, hsz0⟩ := hc
  have hok : ∀ y ∈ ys, y.known = true ∧ y.cells.length = i.size := fun y hy => by
    have := okE_inv (List.all_eq_true.1 hall y hy); exact ⟨this.2.2, this.1⟩
  have hone : ∀ c ∈ flat ys, c.one = true := fun c hc => by
    obtain ⟨y, hy, hc⟩ := List.mem_flatMap.1 hc
    exact (okE_inv (List.all_eq_true.1 hall y hy)).2.1 c hc
  have hyl := flat_len (fun y hy => (hok y hy).2)
  obtain ⟨b, cap, sz, blk, off, vs, rfl, hcap, hsz, ha, hσ, hv, hnl, how⟩ := hx.sl_inv
  -- a new array
  have grow : ∀ (tk' : Nat) (toks' : List (Nat × Nat)), (∀ q ∈ xs, q.cells.length = i.size) → cap < xs.length + ys.length →
      ((tk' = M.toks.length ∧ toks' = M.toks ++ [((xs ++ ys).length, i.size)]) ∨ (∃ m, M.toks[tk']? = some (m, i.size) ∧ m < (xs ++ ys).length ∧ toks' = M.toks.set tk' ((xs ++ ys).length, i.size))) →
      ∃ r w' G', (Builtin.append_ #[t, u] ty #[.slice b xs.length cap, y]).run P w = .ok r w' ∧ Goes B M.boxes.length G G' ∧ Inv B w0 G' ⟨M.boxes, toks'⟩ w' ∧ V G' (.sl (.ow tk') (xs ++ ys)) r := by
    intro tk' toks' hxs hlt htok
    have hszx : ∀ q ∈ xs, q.known = true ∧ q.cells.length = i.size := fun q hq => ⟨(hsz q hq).1, hxs q hq⟩
    have hxl := flat_len hxs
    have hold : (Builtin.firstCells i.size xs.length (.slice b xs.length cap)).run P w.drew = .ok ((List.range (flat xs).length).map vs).toArray w.drew :=
      sl_cells (P := P) hI (w' := w.drew) (fun _ => rfl) hszx ha hσ _
    have hr := run_append_grow' (P := P) (w := w) (ty := ty) ht hi hz hu hd (b := b) (n := xs.length) (cap := cap) (hs.len w) (hs.first w.drew (fun _ => rfl)) hold hlt hbytes h0
    have hge := grownCap_ge w (xs.length + ys.length) cap e'
    let nc := grownCap w (xs.length + ys.length) cap e'
    let arr : Array Value := ((List.range (flat xs).length).map vs).toArray ++ news ++ Builtin.zeroCells z.cells (nc - (xs.length + ys.length))
    have hasz : arr.size = nc * i.size := by
      simp only [arr, Array.size_append, size_zeroCells, hzs, hs.size, List.size_toArray, List.length_map, List.length_range, hxl]
      rw [← Nat.add_mul, ← Nat.add_mul]; congr 1; show _ = nc; have : xs.length + ys.length ≤ nc := hge; omega
    have hfl : (flat (xs ++ ys)) = flat xs ++ flat ys := flat_append xs ys
    have hget : ∀ j c, (flat (xs ++ ys))[j]? = some c → V G c (arr.getD j undef) := by
      intro j c hc
      rw [hfl] at hc
      by_cases hj : j < (flat xs).length
      · rw [List.getElem?_append_left hj] at hc
        have h1 := hv j c hc
        have : arr.getD j undef = vs j := by
          simp only [arr]
          rw [getD_append, if_pos (by simp; omega), getD_append, if_pos (by simpa using hj)]
          simp [Array.getD_eq_getD_getElem?, hj]
        rw [this]; exact h1
      · rw [List.getElem?_append_right (by omega)] at hc
        have h1 := hs.V _ c hc
        have hjn : j - (flat xs).length < news.size := by rw [hs.size, ← hyl]; exact getElem?_lt hc
        have : arr.getD j undef = news.getD (j - (flat xs).length) undef := by
          simp only [arr]
          rw [getD_append, if_pos (by simp; omega), getD_append, if_neg (by simpa using hj)]
          simp
        rw [this]; exact h1
    obtain ⟨G', g1, g2, g3⟩ := hI.newArr (w' := w.drew.alloc (.cells arr e')) (((Below.refl _ _).drew).alloc (by simp) _) (blk := w.heap.size) (t := tk') (sz := i.size) (cap := nc) (xs := xs ++ ys) (arr := arr) (toks' := toks')
      (Nat.le_refl _) (by simp) (fun j hj => cell_new w.drew arr e' j (by omega))
      (fun q hq => by rcases List.mem_append.1 hq with hq | hq; exact hszx q hq; exact hok q hq) (by simp only [List.length_append]; exact hge) (.inl (by omega)) hget
      (bdL_of fun c hc => by rcases List.mem_append.1 hc with hc | hc; exact bdL_mem hbx c hc; exact bdL_mem hby c hc) htok
    rw [List.length_append] at g3
    exact ⟨_, _, G', hr, g1, g2, g3⟩
  have hbd : bdL M.boxes.length (xs ++ ys) = true := bdL_of fun c hc => by rcases List.mem_append.1 hc with hc | hc; exact bdL_mem hbx c hc; exact bdL_mem hby c hc
  cases tk with
  | sh => simp at hev
  | nl =>
    obtain rfl := hnl rfl
    simp only at hev
    split at hev
    · simp only [Option.some.injEq, Prod.mk.injEq] at hev
      obtain ⟨rfl, rfl⟩ := hev
      have hf0 := hs.first w (fun _ => rfl)
      have hn0 : news = #[] := by have := hs.size; simp at this; simpa using this
      rw [hn0] at hf0
      have hr := run_append_zero (P := P) (w := w) (ty := ty) ht hi hu hd (b := b) (n := 0) (cap := 0) (hs.len w) hf0 (Nat.le_refl _)
      exact ⟨_, w, G, hr, Goes.refl .., hI, hx, rfl, Nat.le_refl _⟩
    · rename_i y0 r0
      simp only [Option.some.injEq, Prod.mk.injEq] at hev
      obtain ⟨rfl, rfl⟩ := hev
      obtain ⟨r, w', G', h1, h2, h3, h4⟩ := grow M.toks.length (M.toks ++ [((y0 :: r0).length, i.size)]) (fun q hq => by cases hq) (by simp) (.inl ⟨rfl, rfl⟩)
      exact ⟨r, w', G', h1, h2, h3, h4, by simp only [bd]; exact hbd, Nat.le_refl _⟩
    · cases hev
  | ow k =>
    simp only at hev
    split at hev
    rotate_left
    · cases hev
    rename_i htk
    simp only [Option.some.injEq, Prod.mk.injEq] at hev
    obtain ⟨rfl, rfl⟩ := hev
    obtain ⟨hb, rfl, cq, hτ, hcq⟩ := how k rfl
    subst hb
    obtain ⟨⟨m0, s0, hm0, hs0, -⟩, -⟩ := hI.tokv k _ _ _ _ hτ
    rw [htk] at hm0
    simp only [Option.some.injEq, Prod.mk.injEq] at hm0
    have hszi : i.size = sz := by rcases hs0 with h | h <;> omega
    subst hszi
    obtain ⟨blk', cap', hτ', -, hsp⟩ := hI.tok k _ _ htk (by omega)
    rw [hτ] at hτ'
    simp only [Option.some.injEq, Prod.mk.injEq, and_true] at hτ'
    obtain ⟨rfl, rfl⟩ := hτ'
    have hcc := (hcq _ rfl).symm
    subst hcc
    rcases Nat.eq_zero_or_pos ys.length with hy0 | hy0
    · have hys : ys = [] := List.eq_nil_of_length_eq_zero hy0
      subst hys
      have hf0 := hs.first w (fun _ => rfl)
      have hn0 : news = #[] := by have := hs.size; simp at this; simpa using this
      rw [hn0] at hf0
      have hr := run_append_zero (P := P) (w := w) (ty := ty) ht hi hu hd (b := some ⟨blk, 0, none⟩) (n := xs.length) (cap := cap) (hs.len w) hf0 hcap
      refine ⟨_, w, G, hr, Goes.refl .., ?_, by simpa using hx, by simpa only [bd] using hbd, Nat.le_refl _⟩
      have hset : M.toks.set k ((xs ++ []).length, i.size) = M.toks := by
        rw [List.append_nil]
        apply List.ext_getElem?
        intro j
        rw [List.getElem?_set]
        split
        · rename_i hj; subst hj; rw [if_pos (getElem?_lt htk), htk]
        · rfl
      rw [hset]; exact hI
    · by_cases hfit : xs.length + ys.length ≤ cap
      · -- in place
        have hxl := flat_len (fun q hq => (hsz q hq).2)
        have hsp' : ∀ j, xs.length * i.size ≤ j → j < cap * i.size → (w.cell? ⟨blk, j, none⟩).isSome = true ∧ w.frozen? ⟨blk, j, none⟩ = false := fun j h1 h2 => (hsp j h1).2 h2
        have hfitc : (xs.length + ys.length) * i.size ≤ cap * i.size := Nat.mul_le_mul_right _ hfit
        rw [Nat.add_mul] at hfitc
        have hnl' : news.toList.length = ys.length * i.size := by simp [hs.size]
        have hst := run_storeCells_cells (P := P) blk (xs.length * i.size) news.toList 0 w (fun j hj => (hsp' _ (by omega) (by omega)).1) (fun j hj => (hsp' _ (by omega) (by omega)).2) (fun q hq => by
          obtain ⟨j, hj, rfl⟩ := List.getElem_of_mem hq
          have hjf : j < (flat ys).length := by omega
          have h1 := hs.V j _ (List.getElem?_eq_getElem hjf)
          have h2 := h1.one (hone _ (List.getElem_mem hjf))
          have hjn : j < news.size := by simpa using hj
          simpa [Array.getD, hjn] using h2)
        simp only [Nat.add_zero] at hst
        have hr := run_append_fits' (P := P) (w := w) (ty := ty) ht hi hu hd (blk := blk) (n := xs.length) (cap := cap) (hs.len w) (hs.first w (fun _ => rfl)) hfit hst
        -- the world behind the store
        have hBblk := (hI.tokv k _ _ _ _ hτ).2.1
        have hltblk := (hI.tokv k _ _ _ _ hτ).2.2.1
        have hρblk := (hI.tokv k _ _ _ _ hτ).2.2.2.1
        have hfrblk := (hI.tokv k _ _ _ _ hτ).2.2.2.2
        have hout : ∀ x o', (x = blk → o' < xs.length * i.size ∨ xs.length * i.size + news.toList.length ≤ o') → (w.setCells blk (xs.length * i.size) news.toList).cell? ⟨x, o', none⟩ = w.cell? ⟨x, o', none⟩ := fun x o' hx =>
          World.cell?_setCells_out _ _ _ _ _ (fun h _ => hx h)
        have hfr : ∀ x o', (w.setCells blk (xs.length * i.size) news.toList).frozen? ⟨x, o', none⟩ = w.frozen? ⟨x, o', none⟩ := fun x o' => World.frozen?_setCells _ _ _ _ _
        have hI1 : Inv B w0 G M (w.setCells blk (xs.length * i.size) news.toList) := by
          refine ⟨Below.setCells hBblk _ _ hI.below, by rw [size_setCells]; exact hI.hB, hI.σβ, ?_, ?_, ?_, hI.boxinj, ?_, ?_, hI.tokinj⟩
          · intro x o' q hq
            rw [hout x o' (fun hx => by
              rcases Nat.lt_or_ge o' (xs.length * i.size) with h | h
              · exact .inl h
              · subst hx; rw [(hsp o' h).1] at hq; cases hq)]
            exact hI.stab _ _ _ hq
          · intro j cs hj
            obtain ⟨q1, q2⟩ := hI.box j cs hj
            refine ⟨q1, fun l c hl => ?_⟩
            obtain ⟨q, p1, p2, p3⟩ := q2 l c hl
            exact ⟨q, by rw [hout _ _ (fun h => absurd h (hρblk j (getElem?_lt hj)))]; exact p1, by rw [hfr]; exact p2, p3⟩
          · intro j hj; rw [size_setCells]; exact hI.boxB j hj
          · intro t' n' sz' ht' hz'
            obtain ⟨b', c', p1, p2, p3⟩ := hI.tok t' n' sz' ht' hz'
            refine ⟨b', c', p1, p2, fun o' ho' => ⟨(p3 o' ho').1, fun hlt => ?_⟩⟩
            rw [hfr]
            refine ⟨?_, ((p3 o' ho').2 hlt).2⟩
            by_cases hbb : b' = blk
            · subst hbb
              by_cases hin : xs.length * i.size ≤ o' ∧ o' < xs.length * i.size + news.toList.length
              · have := World.cell?_setCells_in b' news.toList (xs.length * i.size) w (fun j hj => (hsp' _ (by omega) (by omega)).1) (o' - xs.length * i.size) (by omega)
                rw [show xs.length * i.size + (o' - xs.length * i.size) = o' by omega] at this
                rw [this]; rfl
              · rw [hout _ _ (fun _ => by omega)]; exact ((p3 o' ho').2 hlt).1
            · rw [hout _ _ (fun h => absurd h hbb)]; exact ((p3 o' ho').2 hlt).1
          · intro t' n' b' c' s' hq
            obtain ⟨p1, p2, p3, p4, p5⟩ := hI.tokv t' n' b' c' s' hq
            exact ⟨p1, p2, by rw [size_setCells]; exact p3, p4, fun o' ho' => by rw [hfr]; exact p5 o' ho'⟩
        have hlen' : (xs ++ ys).length * i.size = xs.length * i.size + ys.length * i.size := by rw [List.length_append, Nat.add_mul]
        have hτn : G.τ k (xs ++ ys).length = none := by
          cases hq : G.τ k (xs ++ ys).length with
          | none => rfl
          | some q =>
            obtain ⟨b', c', s'⟩ := q
            obtain ⟨⟨m, s1, p1, -, p2⟩, -⟩ := hI.tokv k _ b' c' s' hq
            rw [htk] at p1
            simp only [Option.some.injEq, Prod.mk.injEq] at p1
            rw [List.length_append] at p2; omega
        obtain ⟨q1, q2⟩ := hI1.addArr (blk := blk) (o1 := xs.length * i.size) (o2 := (xs ++ ys).length * i.size) (t := k) (n := (xs ++ ys).length) (cap := cap) (sz := i.size) (vs := fun j => news.getD (j - xs.length * i.size) undef) (toks' := M.toks.set k ((xs ++ ys).length, i.size))
          hBblk (by rw [size_setCells]; exact hltblk) (fun j hj => (hsp j hj).1) hρblk (fun t' l q hq hqb => hI.tokinj _ _ _ _ _ _ hq hτ hqb) hτn
          (by simp [getElem?_lt htk]) (fun t' htt => by rw [List.getElem?_set_ne (Ne.symm htt)])
          (fun m s' hm => by rw [htk] at hm; simp only [Option.some.injEq, Prod.mk.injEq] at hm; rw [List.length_append]; omega) (.inl (by omega))
          rfl (by omega) (by rw [List.length_append]; exact hfit)
          (fun j h1 h2 => by
            have := World.cell?_setCells_in blk news.toList (xs.length * i.size) w (fun j hj => (hsp' _ (by omega) (by omega)).1) (j - xs.length * i.size) (by omega)
            rw [show xs.length * i.size + (j - xs.length * i.size) = j by omega] at this
            rw [this]
            have hjn : j - xs.length * i.size < news.size := by have := hs.size; omega
            simp [Array.getD, hjn])
          (fun j h1 => by
            rw [hfr]
            rcases Nat.lt_or_ge j (xs.length * i.size) with h | h
            · exact hfrblk j h
            · exact (hsp' j h (by omega)).2)
          (fun j h1 h2 => by
            rw [hout _ _ (fun _ => by omega), hfr]; exact hsp' j (by omega) h2)
        refine ⟨_, _, _, hr, q2, q1, ?_, by simpa only [bd] using hbd, Nat.le_refl _⟩
        have hle := q2.le
        refine .sl (.ow k) (xs ++ ys) _ _ cap i.size blk 0 (fun j => if j < xs.length * i.size then vs j else news.getD (j - xs.length * i.size) undef) (by rw [List.length_append]) (by rw [List.length_append]; exact hfit)
          (fun q hq => by rcases List.mem_append.1 hq with hq | hq; exact hsz q hq; exact hok q hq) (fun _ => rfl) (fun j hj => ?_) (fun j c hc => ?_) (fun h => by cases h) (fun l hl => ?_)
        · rw [flat_append, List.length_append] at hj
          split
          · rename_i hlt; exact hle.σ _ _ _ (hσ j (by omega))
          · rename_i hge
            simp only [Gh.addArr, Nat.zero_add]
            rw [if_pos ⟨trivial, by omega, by omega⟩]
        · rw [flat_append] at hc
          split
          · rename_i hlt
            rw [List.getElem?_append_left (by omega)] at hc
            exact (hv j c hc).mono hle (bd_flat hbx c (getElem?_mem' hc))
          · rename_i hge
            rw [List.getElem?_append_right (by omega), hxl] at hc
            exact (hs.V _ c hc).mono hle (bd_flat hby c (getElem?_mem' hc))
        · cases hl
          exact ⟨rfl, rfl, some cap, by simp [Gh.addArr], fun k hk => by simpa using hk.symm⟩
      · obtain ⟨r, w', G', h1, h2, h3, h4⟩ := grow k (M.toks.set k ((xs ++ ys).length, i.size)) (fun q hq => (hsz q hq).2) (by omega) (.inr ⟨xs.length, htk, by rw [List.length_append]; omega, rfl⟩)
        exact ⟨r, w', G', h1, h2, h3, h4, by simpa only [bd] using hbd, Nat.le_refl _⟩
end
end Go.AM
