/- Append and bytes-to-string as operations; all operations that call nothing together. Structs of whole numbers compared. Operations, guarded or not, calls among them; a region in the order of its text. A region: in the order of its text, and in whatever order its edges allow. -/
import Derived.Test.YtnehpfaafgnnpaaMC
import Derived.Laws.StructEq
set_option linter.unusedSimpArgs false
set_option linter.unusedVariables false
set_option linter.unnecessarySimpa false
namespace Go.AM
open AV Go.RowKit

section
variable {P : Program} {B : Nat} {w0 : World} {G : Gh} {M : Mem} {w : World} {a : Act} {e : Env} {o : Oper}

theorem src_slice (hI : Inv B w0 G M w) {tk : Tok} {ys : List AV} {y : Value} (hy : V G (.sl tk ys) y) {sz : Nat} (hsz : ∀ q ∈ ys, q.cells.length = sz) : ∃ news, Src P w sz G ys y news := by
  obtain ⟨b, cap, sz', blk, off, vs, rfl, hcap, hs, ha, hσ, hv, -, -⟩ := hy.sl_inv
  have hs' : ∀ q ∈ ys, q.known = true ∧ q.cells.length = sz := fun q hq => ⟨(hs q hq).1, hsz q hq⟩
  refine ⟨((List.range (flat ys).length).map vs).toArray, fun w' => rfl, fun w' hw' => sl_cells hI hw' hs' ha hσ _, by simp [flat_len hsz], fun j c hc => ?_⟩
  have hj := getElem?_lt hc
  simpa [Array.getD, hj] using hv j c hc

theorem flat_byteCells (s : ByteArray) : flat (byteCells s) = byteCells s := by
  unfold flat byteCells
  rw [List.flatMap_map]
  induction s.data.toList with
  | nil => rfl
  | cons b r ih => simp only [List.flatMap_cons, List.map_cons, ih]; rfl
theorem len_byteCells (s : ByteArray) : (byteCells s).length = s.size := by simp [byteCells]

theorem src_string (s : ByteArray) : Src P w 1 G (byteCells s) (.string s) (s.data.map fun b => .int .u8 b.toNat) := by
  have hd : s.data.size = s.size := rfl
  refine ⟨fun w' => by rw [len_byteCells]; rfl, fun w' _ => ?_, by rw [len_byteCells]; simp [hd], fun j c hc => ?_⟩
  · rw [len_byteCells]
    simp only [Builtin.firstCells]
    have : s.extract 0 s.size = s := by
      apply ByteArray.ext
      simp [ByteArray.data_extract]
    rw [this]; rfl
  · rw [flat_byteCells] at hc
    unfold byteCells at hc
    rw [List.getElem?_map] at hc
    cases hb : s.data.toList[j]? with
    | none => rw [hb] at hc; cases hc
    | some b =>
      rw [hb] at hc
      obtain rfl := Option.some.inj hc
      have : s.data[j]? = some b := by simpa using hb
      simp [Array.getD_eq_getD_getElem?, this]
      exact .int _ _

theorem ok_app {sx sy : X} {c : Call} {t u e' e'' : TypeId} {i : TypeInfo} {z : Value} (hI : Inv B w0 G M w) (hE : VE G M.boxes.length e a) (ho : o.op = .call c) (hc : c.callee = .builtin .append) (hat : c.argTypes = #[t, u])
    (ha : slimXs c.args.toList = some [sx, sy]) (ht : P.underlying t = some (.slice e')) (hi : P.info? e' = some i) (hu : P.underlying u = some (.slice e'')) (hz : i.zero = some z) (hzs : z.cells.size = i.size) (h0 : 0 < i.bytes)
    {v : AV} {M' : Mem} {cl : FuncId → List AV → Mem → Option (AV × Mem)} (hev : (SOp.app i.size i.bytes sx sy).ev cl e M = some (v, M')) : OpOk P o a w B w0 M.boxes.length G v M' := by
  obtain ⟨x, y, h1, hx, hy, bx, by'⟩ := two_args hE ha
  simp only [SOp.ev] at hev
  split at hev
  · rename_i tk xs tk' ys hxv hyv
    rw [hxv] at hx bx
    rw [hyv] at hy by'
    have hall : ∀ q ∈ ys, q.cells.length = i.size := by
      unfold appA at hev
      split at hev
      · rename_i hcc
        exact fun q hq => (okE_inv (List.all_eq_true.1 hcc.1 q hq)).1
      · cases hev
    obtain ⟨news, hs⟩ := src_slice (P := P) hI hy hall
    obtain ⟨r, w', G', q1, q2, q3, q4, q5, q6⟩ := append_V (P := P) (ty := o.type) hI ht hi hz hzs h0 hu (fun k h => by cases h) hx (by simpa only [bd] using bx) hs (by simpa only [bd] using by') hev
    refine ⟨r, w', G', .inl ?_, q2, q3, q4, q5, q6⟩
    unfold execOp; rw [ho]
    simp [resolve, hc, h1, invoke, builtin, hat, q1]
  · cases hev

theorem bdL_byteCells (n : Nat) (s : ByteArray) : bdL n (byteCells s) = true := by
  refine bdL_of fun c hc => ?_
  unfold byteCells at hc
  obtain ⟨b, -, rfl⟩ := List.mem_map.1 hc
  rfl

theorem ok_appS {sx sy : X} {c : Call} {t u e' : TypeId} {i : TypeInfo} {z : Value} (hI : Inv B w0 G M w) (hE : VE G M.boxes.length e a) (ho : o.op = .call c) (hc : c.callee = .builtin .append) (hat : c.argTypes = #[t, u])
    (ha : slimXs c.args.toList = some [sx, sy]) (ht : P.underlying t = some (.slice e')) (hi : P.info? e' = some i) (hu : P.underlying u = some .string) (hz : i.zero = some z) (hzs : z.cells.size = i.size) (h1' : i.size = 1 ∧ i.bytes = 1)
    {v : AV} {M' : Mem} {cl : FuncId → List AV → Mem → Option (AV × Mem)} (hev : (SOp.appS sx sy).ev cl e M = some (v, M')) : OpOk P o a w B w0 M.boxes.length G v M' := by
  obtain ⟨x, y, h1, hx, hy, bx, by'⟩ := two_args hE ha
  simp only [SOp.ev] at hev
  split at hev
  · rename_i tk xs s hxv hyv
    rw [hxv] at hx bx
    rw [hyv] at hy by'
    obtain rfl := hy.str_inv
    have hs := src_string (P := P) (w := w) (G := G) s
    rw [← h1'.1] at hs
    have hev' : appA i.size i.bytes tk xs (byteCells s) M = some (v, M') := by rw [h1'.1, h1'.2]; exact hev
    obtain ⟨r, w', G', q1, q2, q3, q4, q5, q6⟩ := append_V (P := P) (ty := o.type) hI ht hi hz hzs (by omega) hu (fun k h => by cases h) hx (by simpa only [bd] using bx) hs (bdL_byteCells _ s) hev'
    refine ⟨r, w', G', .inl ?_, q2, q3, q4, q5, q6⟩
    unfold execOp; rw [ho]
    simp [resolve, hc, h1, invoke, builtin, hat, q1]
  · cases hev

theorem bytesOf_inv : ∀ {xs : List AV} {l : List UInt8}, bytesOf xs = some l → (∀ x ∈ xs, x.cells.length = 1) ∧ flat xs = xs ∧ ∃ ns : List Int, xs = ns.map (AV.int .u8) ∧ l = ns.map fun n => UInt8.ofNat n.toNat
  | [], l, h => by cases h; exact ⟨fun _ h => (by cases h), rfl, [], rfl, rfl⟩
  | x :: r, l, h => by
    unfold bytesOf at h
    split at h
    · rename_i heq; cases heq
    · rename_i n r' heq
      simp only [List.cons.injEq] at heq
      obtain ⟨rfl, rfl⟩ := heq
      simp only [Option.map_eq_some_iff] at h
      obtain ⟨l', hl, rfl⟩ := h
      obtain ⟨h1, h2, ns, h3, h4⟩ := bytesOf_inv hl
      refine ⟨fun y hy => ?_, ?_, n :: ns, by simp [h3], by simp [h4]⟩
      · rcases List.mem_cons.1 hy with rfl | hy
        · rfl
        · exact h1 y hy
      · show [AV.int .u8 n] ++ flat r = _
        rw [h2]; rfl
    · cases h

theorem foldl_push (ns : List Int) : ∀ s : ByteArray, (ns.foldl (fun r n => r.push (UInt8.ofNat n.toNat)) s).data = s.data ++ (ns.map fun n => UInt8.ofNat n.toNat).toArray := by
  induction ns with
  | nil => intro s; simp
  | cons n r ih => intro s; rw [List.foldl_cons, ih]; simp [ByteArray.push]

theorem ok_b2s {x : Operand} {sx : X} {s d e' : TypeId} (hI : Inv B w0 G M w) (hE : VE G M.boxes.length e a) (ho : o.op = .convert s d x) (hx : slimX x = some sx)
    (hs : P.underlying s = some (.slice e')) (he : P.underlying e' = some (.int .u8)) (hd : P.underlying d = some .string)
    {v : AV} {M' : Mem} {cl : FuncId → List AV → Mem → Option (AV × Mem)} (hev : (SOp.b2s sx).ev cl e M = some (v, M')) : OpOk P o a w B w0 M.boxes.length G v M' := by
  obtain ⟨x1, x2⟩ := slimX_V hE hx
  simp only [SOp.ev] at hev
  split at hev
  · rename_i tk xs hxv
    simp only [Option.map_eq_some_iff, Prod.mk.injEq] at hev
    obtain ⟨l, hl, rfl, rfl⟩ := hev
    rw [hxv] at x1
    obtain ⟨h1, h2, ns, h3, h4⟩ := bytesOf_inv hl
    obtain ⟨b, cap, sz', blk, off, vs, h0, hcap, hss, ha, hσ, hv, -, -⟩ := x1.sl_inv
    refine .same hI (x := .string ⟨l.toArray⟩) ?_ (.str _) rfl
    unfold execOp; rw [ho]
    simp only [h0, Sem.run_bind, run_convert_bytes_string w s d e' b _ cap hs he hd]
    cases b with
    | none =>
      have hxe : xs = [] := by
        rcases xs with _ | ⟨y, r⟩
        · rfl
        · exact absurd (ha (by simp)) (by simp)
      subst hxe
      have : ns = [] := by simpa using h3.symm
      subst this
      simp only [List.map_nil] at h4
      subst h4
      simp only [Conv.bytesToString]
      rfl
    | some ad =>
      subst h3
      have hld : (loadCells ad (ns.map (AV.int .u8)).length).run P w = .ok (ns.map (Value.int .u8)).toArray w := by
        have h5 := sl_cells (P := P) (cap := cap) hI (w' := w) (fun _ => rfl) (fun q hq => ⟨(hss q hq).1, h1 q hq⟩) ha hσ (ns.map (AV.int .u8)).length
        simp only [Builtin.firstCells, Nat.mul_one] at h5
        rw [h5, h2]
        congr 2
        apply List.ext_getElem?
        intro j
        by_cases hj : j < ns.length
        · have hx' : (ns.map (AV.int .u8))[j]? = some (AV.int .u8 ns[j]) := by simp [hj]
          have hV := hv j _ (by rw [h2]; exact hx')
          have := hV.int_inv
          simp [hj, this]
        · simp [hj]
      rw [run_bytesToString w ad _ cap ns hld]
      simp only [Result.andThen_ok, Sem.run_pure]
      congr 3
      apply ByteArray.ext
      rw [foldl_push, h4]
      simp
  · cases hev
end
end Go.AM

namespace Go.AM
open AV Go.RowKit

/-- The kinds of the cells of fields that stand one behind the other from o on. -/
def kindsFs (P : Program) (kt : TypeId → Option (List IntKind)) : List Field → Nat → Option (List IntKind)
  | [], _ => some []
  | f :: fs, o =>
    if f.offset = o ∧ f.name ≠ "_" then
      match kt f.type, sizeT P f.type, kindsFs P kt fs (o + (sizeT P f.type).getD 0) with
      | some ks, some n, some l => if ks.length = n then some (ks ++ l) else none
      | _, _, _ => none
    else none
def kindsT (P : Program) : Nat → TypeId → Option (List IntKind)
  | 0, _ => none
  | d + 1, t => match P.underlying t with
    | some (.int k) => if sizeT P t = some 1 then some [k] else none
    | some (.struct fs) => if P.stoodInHeld t = false then kindsFs P (kindsT P d) fs.toList 0 else none
    | _ => none

def seqOp (P : Program) (op : BinOp) (t : TypeId) (x y : Operand) : Option SOp :=
  match P.underlying t with
  | some (.struct _) => match kindsT P 9 t, slimX x, slimX y with
    | some ks, some x, some y => if P.eqGuardType P.depth t = false then (match op with
      | .eql => some (.seq false ks x y)
      | .neq => some (.seq true ks x y)
      | _ => none) else none
    | _, _, _ => none
  | _ => none

def ints (ks : List IntKind) (as : List Int) : List Value := List.zipWith Value.int ks as
def valI (ag : Bool) (vs : List Value) : Value := if ag then .agg vs.toArray else vs.headD undef

theorem ieqs_inv : ∀ {ks : List IntKind} {xs ys : List AV} {r : Bool}, ieqs ks xs ys = some r → ∃ as bs : List Int, as.length = ks.length ∧ bs.length = ks.length ∧ xs = List.zipWith AV.int ks as ∧ ys = List.zipWith AV.int ks bs ∧ r = (as == bs)
  | [], [], [], r, h => by simp only [ieqs, Option.some.injEq] at h; subst h; exact ⟨[], [], rfl, rfl, rfl, rfl, rfl⟩
  | [], [], _ :: _, r, h => by simp [ieqs] at h
  | [], _ :: _, _, r, h => by simp [ieqs] at h
  | k :: ks, [], _, r, h => by simp [ieqs] at h
  | k :: ks, x :: xs, [], r, h => by cases x <;> simp [ieqs] at h
  | k :: ks, x :: xs, y :: ys, r, h => by
    unfold ieqs at h
    split at h
    · rename_i h1 _ _; cases h1
    · rename_i k' ks' k1 a' xs' k2 b' ys' e1 e2 e3
      simp only [List.cons.injEq] at e1 e2 e3
      obtain ⟨rfl, rfl⟩ := e1
      obtain ⟨rfl, rfl⟩ := e2
      obtain ⟨rfl, rfl⟩ := e3
      split at h
      · rename_i hk
        obtain ⟨rfl, rfl⟩ := hk
        split at h
        · rename_i hab
          subst hab
          obtain ⟨as, bs, q1, q2, q3, q4, q5⟩ := ieqs_inv h
          exact ⟨a' :: as, a' :: bs, by simp [q1], by simp [q2], by simp [q3], by simp [q4], by simp [q5]⟩
        · rename_i hab
          simp only [Option.map_eq_some_iff] at h
          obtain ⟨r', h', rfl⟩ := h
          obtain ⟨as, bs, q1, q2, q3, q4, q5⟩ := ieqs_inv h'
          exact ⟨a' :: as, b' :: bs, by simp [q1], by simp [q2], by simp [q3], by simp [q4], by simp [hab]⟩
      · cases h
    · cases h

section
variable {P : Program} {B : Nat} {w0 : World} {G : Gh} {M : Mem} {w : World} {a : Act} {e : Env} {o : Oper}

theorem ints_append (ks ls : List IntKind) (as bs : List Int) (h : as.length = ks.length) : ints (ks ++ ls) (as ++ bs) = ints ks as ++ ints ls bs := by
  unfold ints; exact List.zipWith_append h.symm
theorem ints_len {ks : List IntKind} {as : List Int} (h : as.length = ks.length) : (ints ks as).length = ks.length := by simp [ints, h]

theorem part_ints {t : TypeId} {ag : Bool} {n : Nat} (hag : aggType P t = some ag) (hn : sizeT P t = some n) (h1 : ag = false → n = 1) {pre mid post : List Value} (hm : mid.length = n) :
    (part t (pre ++ mid ++ post).toArray pre.length).run P w = .ok (valI ag mid) w := by
  cases ag with
  | true =>
    simp only [part, Sem.run_bind, run_isAgg hag, Result.andThen_ok, if_true, run_sizeOf hn, Sem.run_pure, valI]
    congr 2
    apply Array.ext'
    simp only [Array.toList_extract, List.append_assoc]
    rw [List.extract_eq_take_drop, List.drop_left]
    rw [← hm, Nat.add_sub_cancel_left, List.take_left]
  | false =>
    have := h1 rfl
    subst this
    match mid, hm with
    | [v], _ =>
      simp [part, run_isAgg hag, valI]

theorem equalIn_kinds : ∀ (d : Nat) (t : TypeId) (ks : List IntKind), kindsT P d t = some ks → ∀ (D : Nat), d ≤ D → ∀ as bs : List Int, as.length = ks.length → bs.length = ks.length →
    ∃ ag, aggType P t = some ag ∧ (ag = false → ks.length = 1) ∧ (Op.equalIn D t (valI ag (ints ks as)) (valI ag (ints ks bs))).run P w = .ok (as == bs) w := by
  intro d
  induction d with
  | zero => intro t ks h; cases h
  | succ d ih =>
    intro t ks h D hD as bs ha hb
    obtain ⟨D, rfl⟩ : ∃ D', D = D' + 1 := ⟨D - 1, by omega⟩
    unfold kindsT at h
    split at h
    · rename_i k hu
      split at h
      · obtain rfl := Option.some.inj h
        match as, ha, bs, hb with
        | [p], _, [q], _ =>
          refine ⟨false, by simp [aggType, hu], fun _ => rfl, ?_⟩
          simp only [valI, ints, List.zipWith_cons_cons, List.zipWith_nil_left, List.headD_cons, Bool.false_eq_true, if_false]
          rw [run_equalIn_int w D t k k p q hu]
          simp
      · cases h
    · rename_i fs hu
      split at h
      · rename_i hp
        have hfo : P.fieldsOf t = fs := by simp [Program.fieldsOf, hu]
        refine ⟨true, by simp [aggType, hu], (fun h => by cases h), ?_⟩
        simp only [valI, if_true]
        rw [run_equalIn_struct w D t _ _ (by rw [hfo]; exact hu) hp, hfo]
        -- field by field
        have key : ∀ (fl : List Field) (off : Nat) (ls : List IntKind), kindsFs P (kindsT P d) fl off = some ls → ∀ (pa pb : List Value) (as bs : List Int), pa.length = off → pb.length = off → as.length = ls.length → bs.length = ls.length →
            (Op.eqFields D (pa ++ ints ls as).toArray (pb ++ ints ls bs).toArray fl).run P w = .ok (as == bs) w := by
          intro fl
          induction fl with
          | nil =>
            intro off ls hls pa pb as bs _ _ h1 h2
            simp only [kindsFs, Option.some.injEq] at hls
            subst hls
            have e1 : as = [] := List.eq_nil_of_length_eq_zero (by simpa using h1)
            have e2 : bs = [] := List.eq_nil_of_length_eq_zero (by simpa using h2)
            subst e1; subst e2
            simp [Op.eqFields]
          | cons f fl ihf =>
            intro off ls hls pa pb as bs hpa hpb h1 h2
            simp only [kindsFs] at hls
            split at hls
            rotate_left
            · cases hls
            rename_i hf
            split at hls
            rotate_left
            · cases hls
            rename_i kf n l hkf hn hl
            split at hls
            rotate_left
            · cases hls
            rename_i hlen
            obtain rfl := Option.some.inj hls
            rw [hn] at hl
            simp only [Option.getD_some] at hl
            simp only [List.length_append] at h1 h2
            obtain ⟨a1, a2, rfl, ha1⟩ : ∃ a1 a2, as = a1 ++ a2 ∧ a1.length = kf.length := ⟨as.take kf.length, as.drop kf.length, by simp, by simp; omega⟩
            obtain ⟨b1, b2, rfl, hb1⟩ : ∃ b1 b2, bs = b1 ++ b2 ∧ b1.length = kf.length := ⟨bs.take kf.length, bs.drop kf.length, by simp, by simp; omega⟩
            simp only [List.length_append] at h1 h2
            obtain ⟨ag, q1, q2, q3⟩ := ih f.type kf hkf D (by omega) a1 b1 ha1 hb1
            have e1 := ints_append kf l a1 a2 ha1
            have e2 := ints_append kf l b1 b2 hb1
            have p1 := part_ints (P := P) (w := w) q1 hn (fun h => by have := q2 h; omega) (pre := pa) (mid := ints kf a1) (post := ints l a2) (by rw [ints_len ha1, hlen])
            have p2 := part_ints (P := P) (w := w) q1 hn (fun h => by have := q2 h; omega) (pre := pb) (mid := ints kf b1) (post := ints l b2) (by rw [ints_len hb1, hlen])
            rw [e1, e2]
            rw [List.append_assoc] at p1 p2
            simp only [Op.eqFields, if_pos hf.2, Sem.run_bind, hf.1]
            rw [← hpa, p1]
            simp only [Result.andThen_ok]
            rw [hpa, ← hpb, p2]
            simp only [Result.andThen_ok, q3, Sem.run_ite, Sem.run_pure]
            have hih := ihf (off + n) l hl (pa ++ ints kf a1) (pb ++ ints kf b1) a2 b2 (by rw [List.length_append, ints_len ha1]; omega) (by rw [List.length_append, ints_len hb1]; omega) (by omega) (by omega)
            simp only [List.append_assoc] at hih
            by_cases hab : a1 = b1
            · subst hab
              have hq : (a1 ++ a2 == a1 ++ b2) = (a2 == b2) := by rw [Bool.eq_iff_iff]; simp
              rw [hq]
              simp [hih]
            · have hne : (a1 ++ a2 == b1 ++ b2) = false := by
                rw [beq_eq_false_iff_ne]
                intro h
                exact hab (List.append_inj_left h (by omega))
              have hab' : (a1 == b1) = false := by rw [beq_eq_false_iff_ne]; exact hab
              simp [hab', hne]
        have := key fs.toList 0 ks h [] [] as bs rfl rfl ha hb
        simpa using this
      · cases h
    · cases h

theorem Vs_ints {ks : List IntKind} {as : List Int} {arr : Array Value} (h : Vs G (List.zipWith AV.int ks as) arr) (hl : as.length = ks.length) : arr = (ints ks as).toArray := by
  apply Array.ext'
  apply List.ext_getElem?
  intro j
  by_cases hj : j < ks.length
  · have hc : (List.zipWith AV.int ks as)[j]? = some (AV.int ks[j] (as[j]'(by omega))) := by simp [hj, hl]
    have := (h.2 j _ hc).int_inv
    have hja : j < arr.size := by rw [h.1]; simp; omega
    simp [Array.getD, hja] at this
    have hj2 : j < as.length := by omega
    have hz : j < (List.zipWith Value.int ks as).length := by simp; omega
    simp only [ints]
    rw [List.getElem?_eq_getElem hz]
    simp [hja, this]
  · have h1 : arr.size = ks.length := by rw [h.1]; simp; omega
    simp [ints, h1, hj, hl]

theorem ok_seq {op : BinOp} {x y : Operand} {t u : TypeId} {so : SOp} (hI : Inv B w0 G M w) (hE : VE G M.boxes.length e a) (ho : o.op = .binOp op t x y u) (hs : seqOp P op t x y = some so)
    {v : AV} {M' : Mem} {cl : FuncId → List AV → Mem → Option (AV × Mem)} (hev : so.ev cl e M = some (v, M')) : OpOk P o a w B w0 M.boxes.length G v M' := by
  unfold seqOp at hs
  split at hs
  rotate_left
  · cases hs
  rename_i fs hu
  split at hs
  rotate_left
  · cases hs
  rename_i ks sx sy hks hx hy
  split at hs
  rotate_left
  · cases hs
  rename_i hg
  have main : ∃ ne, so = .seq ne ks sx sy ∧ op = (if ne then .neq else .eql) := by
    split at hs
    · exact ⟨false, (Option.some.inj hs).symm, rfl⟩
    · exact ⟨true, (Option.some.inj hs).symm, rfl⟩
    · cases hs
  obtain ⟨ne, rfl, rfl⟩ := main
  obtain ⟨x1, x2⟩ := slimX_V hE hx
  obtain ⟨y1, y2⟩ := slimX_V hE hy
  simp only [SOp.ev] at hev
  split at hev
  · rename_i xs ys hxv hyv
    simp only [Option.map_eq_some_iff, Prod.mk.injEq] at hev
    obtain ⟨r, hr, rfl, rfl⟩ := hev
    rw [hxv] at x1
    rw [hyv] at y1
    obtain ⟨as, bs, q1, q2, rfl, rfl, rfl⟩ := ieqs_inv hr
    obtain ⟨ax, e1, e2, e3⟩ := x1.agg_inv
    obtain ⟨ay, f1, f2, f3⟩ := y1.agg_inv
    have hax := Vs_ints ⟨e2, e3⟩ q1
    have hay := Vs_ints ⟨f2, f3⟩ q2
    obtain ⟨ag, h1, _, h3⟩ := equalIn_kinds (P := P) (w := w) 9 t ks hks 10000 (by omega) as bs q1 q2
    have hag : ag = true := by simp [aggType, hu] at h1; exact h1
    subst hag
    simp only [valI, if_true] at h3
    rw [← hax, ← hay] at h3
    refine .same hI (x := .bool (ne ^^ (as == bs))) ?_ (.bool _) rfl
    unfold execOp; rw [ho]; simp only [e1, f1]
    cases ne
    · simp [run_eqGuard_agg w _ t x y ax ay hg, run_eql_struct, h3]
    · simp [run_eqGuard_agg w _ t x y ax ay hg, run_neq_struct, h3]
  · cases hev
end
end Go.AM

namespace Go.AM
open AV Go.RowKit

def slimOp' (P : Program) (op : Op) : Option SOp :=
  match slimOp P op with
  | some s => some s
  | none => match op with
    | .binOp bop t x y _ => seqOp P bop t x y
    | _ => none

def slimG (ops : Array Oper) : Option (Nat × Bool) → Option (Option (Nat × Bool))
  | none => some none
  | some (j, want) => match (ops[j]?).bind (·.dst) with
    | some s => some (some (s, want))
    | none => none
def dstOk (nt : Nat) : Option Nat → Bool
  | none => true
  | some d => decide (d < nt)
def slimI (P : Program) (nt : Nat) (ops : Array Oper) (o : Oper) : Option SI :=
  match slimOp' P o.op, slimG ops o.guard with
  | some so, some g => if dstOk nt o.dst = true then some ⟨g, o.dst, so⟩ else none
  | _, _ => none
def slimL (P : Program) (nt : Nat) (ops : Array Oper) : List Oper → Option (List SI)
  | [] => some []
  | o :: r => match slimI P nt ops o, slimL P nt ops r with
    | some s, some l => some (s :: l)
    | _, _ => none

section
variable {P : Program} {B : Nat} {w0 : World} {G : Gh} {M : Mem} {w : World} {a : Act} {e : Env} {o : Oper}

/-- The function may be entered. -/
def Enters (P : Program) (f : FuncId) : Prop := ∃ fn, P.funcs[f]? = some fn ∧ (fn.name == "runtime.NumGoroutine") = false ∧ fn.body.isNone = false

/-- What a call comes to. -/
def CallEnds (B : Nat) (w0 : World) (n : Nat) (G : Gh) (r : AV) (M' : Mem) (e : Ending) (w' : World) : Prop :=
  ∃ v G', e = .returned v ∧ Goes B n G G' ∧ Inv B w0 G' M' w' ∧ V G' r v ∧ bd M'.boxes.length r = true ∧ n ≤ M'.boxes.length

/-- Each call that the tree machine answers the model answers alike. -/
def ClOk (P : Program) (cl : FuncId → List AV → Mem → Option (AV × Mem)) : Prop :=
  ∀ f avs M r M', cl f avs M = some (r, M') → ∀ B w0 G w vs, Inv B w0 G M w → Vs G avs vs → bdL M.boxes.length avs = true →
    Enters P f ∧ Calls P f vs w (CallEnds B w0 M.boxes.length G r M')

theorem run_callFunc_enters {f : FuncId} (h : Enters P f) (vs : Array Value) (w : World) : (callFunc f vs).run P w = .ok (.enter f vs) w := by
  obtain ⟨fn, h1, h2, h3⟩ := h
  simp only [callFunc, Sem.run_bind, run_program, Result.andThen_ok, h1, h2, h3, Bool.false_eq_true, if_false]
  rfl

theorem wp_enter {f : FuncId} {vs : Array Value} {r : AV} {M' : Mem} {next : Act → World → Prop} {Q : Exit → Act → World → Prop} (hrun : (execOp a.eval o).run P w = .ok (.enter f vs) w)
    (hc : Calls P f vs w (CallEnds B w0 M.boxes.length G r M'))
    (hnext : ∀ x w' G', Goes B M.boxes.length G G' → Inv B w0 G' M' w' → V G' r x → bd M'.boxes.length r = true → M.boxes.length ≤ M'.boxes.length → next (a.put o.dst x) w') : o.wp P a w next Q := by
  unfold Oper.wp
  rw [hrun]
  refine hc.mono ?_
  rintro e w' ⟨v, G', rfl, h1, h2, h3, h4, h5⟩
  exact hnext v w' G' h1 h2 h3 h4 h5

theorem wp_of_ok {v : AV} {M' : Mem} {next : Act → World → Prop} {Q : Exit → Act → World → Prop} (h : OpOk P o a w B w0 M.boxes.length G v M') (hd : ∀ x, x = undef → (execOp a.eval o).run P w = .ok .skip w → True)
    (hnext : ∀ x w' G', Goes B M.boxes.length G G' → Inv B w0 G' M' w' → V G' v x → bd M'.boxes.length v = true → M.boxes.length ≤ M'.boxes.length → next (a.put o.dst x) w') : o.wp P a w next Q := by
  obtain ⟨x, w', G', hr, h1, h2, h3, h4, h5⟩ := h
  unfold Oper.wp
  rcases hr with hr | ⟨hr, rfl⟩
  · rw [hr]; exact hnext x w' G' h1 h2 h3 h4 h5
  · rw [hr]; exact hnext undef w' G' h1 h2 h3 h4 h5

theorem sameX_eq {x y : Operand} {sx sy : X} (h : sameX sx sy = true) (hx : slimX x = some sx) (hy : slimX y = some sy) : x = y := by
  cases sx with
  | c v => cases sy <;> simp [sameX] at h
  | t n =>
    cases sy with
    | c v => simp [sameX] at h
    | t m =>
      simp only [sameX, beq_iff_eq] at h
      subst h
      have inv : ∀ {z : Operand}, slimX z = some (.t n) → z = .tmp n := fun {z} hz => by
        cases z with
        | tmp k => simp only [slimX, Option.some.injEq, X.t.injEq] at hz; rw [hz]
        | const v => simp only [slimX, Option.map_eq_some_iff] at hz; obtain ⟨_, _, hz⟩ := hz; cases hz
        | func f => simp only [slimX, Option.some.injEq] at hz; cases hz
        | global g => cases hz
      rw [inv hx, inv hy]

theorem op_sound {so : SOp} {cl : FuncId → List AV → Mem → Option (AV × Mem)} (hcl : ClOk P cl) (hI : Inv B w0 G M w) (hE : VE G M.boxes.length e a) (hs : slimOp' P o.op = some so) {v : AV} {M' : Mem} (hev : so.ev cl e M = some (v, M'))
    {next : Act → World → Prop} {Q : Exit → Act → World → Prop}
    (hnext : ∀ x w' G', Goes B M.boxes.length G G' → Inv B w0 G' M' w' → V G' v x → bd M'.boxes.length v = true → M.boxes.length ≤ M'.boxes.length → next (a.put o.dst x) w') : o.wp P a w next Q := by
  have ok : OpOk P o a w B w0 M.boxes.length G v M' → o.wp P a w next Q := fun h => wp_of_ok h (fun _ _ _ => trivial) hnext
  unfold slimOp' at hs
  split at hs
  rotate_left
  · split at hs
    · rename_i bop t x y u hop
      exact ok (ok_seq hI hE hop hs hev)
    · cases hs
  rename_i so' hso
  obtain rfl := Option.some.inj hs
  clear hs
  cases hop : o.op with
  | move x => rw [hop] at hso; simp only [slimOp, Option.map_eq_some_iff] at hso; obtain ⟨sx, hx, rfl⟩ := hso; exact ok (ok_mv hI hE (.inl hop) hx hev)
  | assign x => rw [hop] at hso; simp only [slimOp, Option.map_eq_some_iff] at hso; obtain ⟨sx, hx, rfl⟩ := hso; exact ok (ok_mv hI hE (.inr hop) hx hev)
  | pick c x y =>
    rw [hop] at hso; simp only [slimOp] at hso
    split at hso
    · rename_i sc sx sy hc hx hy; obtain rfl := Option.some.inj hso; exact ok (ok_pk hI hE hop hc hx hy hev)
    · cases hso
  | alloc t => rw [hop] at hso; simp only [slimOp, Option.map_eq_some_iff] at hso; obtain ⟨zs, hz, rfl⟩ := hso; exact ok (ok_al hI hop hz hev)
  | box t x => rw [hop] at hso; simp only [slimOp, Option.map_eq_some_iff] at hso; obtain ⟨sx, hx, rfl⟩ := hso; exact ok (ok_bx hI hE hop hx hev)
  | build t parts =>
    rw [hop] at hso
    have hso' := hso
    simp only [slimOp] at hso'
    have : ∃ zs ps, so' = .bd zs ps := by
      split at hso'
      · split at hso'
        · split at hso'
          · exact ⟨_, _, (Option.some.inj hso').symm⟩
          · cases hso'
        · cases hso'
      · split at hso'
        · split at hso'
          · exact ⟨_, _, (Option.some.inj hso').symm⟩
          · cases hso'
        · cases hso'
      · cases hso'
    obtain ⟨zs, ps, rfl⟩ := this
    exact ok (ok_bd hI hE hop hso hev)
  | load t x =>
    rw [hop] at hso; simp only [slimOp] at hso
    split at hso
    · rename_i n sx h1 h2 h3; obtain rfl := Option.some.inj hso; exact ok (ok_ld hI hE hop h3 h1 (.inl ⟨rfl, h2⟩) hev)
    · rename_i sx h1 h2; obtain rfl := Option.some.inj hso; exact ok (ok_ld hI hE hop h2 h1 (.inr ⟨rfl, rfl⟩) hev)
    · cases hso
  | store t x y =>
    rw [hop] at hso; simp only [slimOp] at hso
    split at hso
    · rename_i n sx sy h1 h2 h3; obtain rfl := Option.some.inj hso; exact ok (ok_st hI hE hop h2 h3 h1 hev)
    · cases hso
  | nilCheck x => rw [hop] at hso; simp only [slimOp, Option.map_eq_some_iff] at hso; obtain ⟨sx, hx, rfl⟩ := hso; exact ok (ok_nc hI hE hop hx hev)
  | binOp bop t x y u =>
    rw [hop] at hso; simp only [slimOp] at hso
    split at hso
    · rename_i sx sy hx hy
      split at hso
      · obtain rfl := Option.some.inj hso; exact ok (ok_bin hI hE hop hx hy hev)
      · obtain rfl := Option.some.inj hso; exact ok (ok_bin hI hE hop hx hy hev)
      · rename_i hu
        split at hso
        · obtain rfl := Option.some.inj hso; exact ok (ok_beq (ne := false) hI hE hop hx hy hu hev)
        · obtain rfl := Option.some.inj hso; exact ok (ok_beq (ne := true) hI hE hop hx hy hu hev)
        · cases hso
      · cases hso
    · cases hso
  | unOp uop t x =>
    rw [hop] at hso
    cases uop <;> simp only [slimOp, Option.map_eq_some_iff] at hso <;> first
      | (obtain ⟨sx, hx, rfl⟩ := hso; first | exact ok (ok_nt hI hE hop hx hev) | exact ok (ok_ng hI hE hop hx hev))
      | cases hso
  | convert s d x =>
    rw [hop] at hso; simp only [slimOp] at hso
    split at hso
    · rename_i k1 k sx h1 h2 h3; obtain rfl := Option.some.inj hso; exact ok (ok_cv hI hE hop h3 h1 h2 hev)
    · rename_i e' sx h1 h2 h3
      split at hso
      · rename_i h4; obtain rfl := Option.some.inj hso; exact ok (ok_b2s hI hE hop h3 h1 h4 h2 hev)
      · cases hso
    · cases hso
  | makeFunc fn first cs =>
    rw [hop] at hso
    cases fn <;> simp only [slimOp] at hso <;> first
      | (split at hso
         · rename_i hf
           simp only [Option.map_eq_some_iff] at hso
           obtain ⟨xs, hx, rfl⟩ := hso
           exact ok (ok_mf hI hE hop hf hx hev)
         · cases hso)
      | cases hso
  | makeSlice t x y =>
    rw [hop] at hso; simp only [slimOp] at hso
    split at hso
    · rename_i e' hu
      split at hso
      · rename_i i z sx sy h1 h2 h3 h4 h5
        split at hso
        · rename_i hsz
          obtain rfl := Option.some.inj hso
          unfold zeroT at h3
          rw [h1] at h3
          simp only at h3
          split at h3
          · rename_i zv hzv
            obtain ⟨q1, q2⟩ := toAVs_Vs h3 G
            have hzc : z.cells = [z] := by
              obtain ⟨r1, r2, r3⟩ := toAVs_V h3 G
              cases z with
              | agg cs =>
                exfalso
                cases hl : zv.cells.toList with
                | nil => rw [hl] at h3; cases h3
                | cons u r =>
                  rw [hl] at h3
                  simp only [toAVs] at h3
                  split at h3
                  · rename_i p l hp _
                    simp only [Option.some.injEq, List.cons.injEq] at h3
                    obtain ⟨rfl, -⟩ := h3
                    have := (toAV1_V hp G).2.2.2
                    have h6 : SizeOf.sizeOf cs = SizeOf.sizeOf [AV.agg cs] := congrArg SizeOf.sizeOf this
                    simp at h6
                    omega
                  · cases h3
              | _ => rfl
            have hkn : z.known = true := by
              cases hl : zv.cells.toList with
              | nil => rw [hl] at h3; cases h3
              | cons u r =>
                rw [hl] at h3
                simp only [toAVs] at h3
                split at h3
                · rename_i p l hp _
                  simp only [Option.some.injEq, List.cons.injEq] at h3
                  obtain ⟨rfl, -⟩ := h3
                  exact (toAV1_V hp G).2.2.1
                · cases h3
            split at hev
            · rename_i hxy
              obtain rfl := sameX_eq hxy h4 h5
              exact ok (ok_mkb hI hE hop h4 hu h1 hzv ⟨by rw [hzc]; exact q1, fun n => by rw [hzc]; exact q2 n⟩ hkn (by rw [hzc]; exact hsz) (by omega) hev)
            exact ok (ok_mk hI hE hop h4 h5 hu h1 hzv ⟨by rw [hzc]; exact q1, fun n => by rw [hzc]; exact q2 n⟩ hkn (fun n => by have := q2 n; simpa [bdL] using this) (by rw [hzc]; exact hsz) (by omega) hev)
          · cases h3
        · cases hso
      · rename_i i zs sx sy h1 h2 h3 h4 h5
        split at hso
        · rename_i hsz
          obtain rfl := Option.some.inj hso
          unfold zeroT at h3
          rw [h1] at h3
          simp only at h3
          split at h3
          · rename_i zv hzv
            obtain ⟨q1, q2⟩ := toAVs_Vs h3 G
            split at hev
            · rename_i hxy
              obtain rfl := sameX_eq hxy h4 h5
              exact ok (ok_mkb (za := .agg zs) hI hE hop h4 hu h1 hzv ⟨q1, q2⟩ rfl hsz.1 (by omega) hev)
            exact ok (ok_mk (za := .agg zs) hI hE hop h4 h5 hu h1 hzv ⟨q1, q2⟩ rfl (fun n => by simpa only [bd] using q2 n) hsz.1 (by omega) hev)
          · cases h3
        · cases hso
      · cases hso
    · cases hso
  | buildSlice t len parts =>
    rw [hop] at hso; simp only [slimOp] at hso
    split at hso
    · rename_i e' hu
      split at hso
      · rename_i i xs h1 h2
        split at hso
        · rename_i hc
          obtain ⟨c1, c2, c3, c4⟩ := hc
          obtain rfl := Option.some.inj hso
          split at hev
          · rename_i hz
            subst hz
            exact ok (ok_be hI hop hu h1 c1 (Option.isSome_iff_exists.1 c3) hev)
          · exact ok (ok_bs hI hE hop hu h1 h2 c1 c2 (Option.isSome_iff_exists.1 c3) hev)
        · cases hso
      · cases hso
    · cases hso
  | slice t x lo hi mx =>
    rw [hop] at hso
    cases mx with
    | some m => simp only [slimOp] at hso; cases hso
    | none =>
      simp only [slimOp] at hso
      split at hso
      · rename_i sx slo shi h1 h2 h3 h4; obtain rfl := Option.some.inj hso; exact ok (ok_sls hI hE hop h2 h3 h4 h1 hev)
      · rename_i e' sx slo shi h1 h2 h3 h4
        simp only [Option.map_eq_some_iff] at hso
        obtain ⟨n, hn, rfl⟩ := hso
        exact ok (ok_slc hI hE hop h2 h3 h4 h1 hn hev)
      · cases hso
  | fieldAddr t x f =>
    rw [hop] at hso; simp only [slimOp] at hso
    split at hso
    · rename_i fs hu
      split at hso
      · rename_i fd hf
        split at hso
        · rename_i n sx h1 h2
          split at hso
          · rename_i h0; obtain rfl := Option.some.inj hso; exact ok (ok_fa hI hE hop h2 hu hf h1 h0 hev)
          · cases hso
        · cases hso
      · cases hso
    · cases hso
  | field t x f =>
    rw [hop] at hso; simp only [slimOp] at hso
    split at hso
    · rename_i fs hu
      split at hso
      · rename_i fd hf
        split at hso
        · rename_i n sx h1 h2 h3; obtain rfl := Option.some.inj hso; exact ok (ok_fld hI hE hop h3 hu hf h1 (.inl ⟨rfl, h2⟩) hev)
        · rename_i n sx h1 h2 h3; obtain rfl := Option.some.inj hso; exact ok (ok_fld hI hE hop h3 hu hf h1 (.inr ⟨rfl, rfl⟩) hev)
        · cases hso
      · cases hso
    · cases hso
  | indexAddr t x i =>
    rw [hop] at hso; simp only [slimOp] at hso
    split at hso
    · rename_i e' hu
      split at hso
      · rename_i n sx si h1 h2 h3; obtain rfl := Option.some.inj hso; exact ok (ok_ia hI hE hop h2 h3 hu h1 hev)
      · cases hso
    · rename_i len e' hu
      split at hso
      · rename_i n sx si h1 h2 h3; obtain rfl := Option.some.inj hso; exact ok (ok_iaA hI hE hop h2 h3 hu h1 hev)
      · cases hso
    · cases hso
  | index t x i =>
    rw [hop] at hso; simp only [slimOp] at hso
    split at hso
    · rename_i hu
      split at hso
      · rename_i sx si h2 h3; obtain rfl := Option.some.inj hso; exact ok (ok_ixS hI hE hop h2 h3 hu hev)
      · cases hso
    · rename_i len e' hu
      split at hso
      · rename_i n sx si h0 h1 h2 h3; obtain rfl := Option.some.inj hso; exact ok (ok_ixA hI hE hop h2 h3 hu h0 h1 (fun h => by cases h) hev)
      · rename_i sx si h0 h1 h2 h3; obtain rfl := Option.some.inj hso; exact ok (ok_ixA hI hE hop h2 h3 hu h0 h1 (fun _ => rfl) hev)
      · cases hso
    · cases hso
  | extract x i => rw [hop] at hso; simp only [slimOp, Option.map_eq_some_iff] at hso; obtain ⟨sx, hx, rfl⟩ := hso; exact ok (ok_ext hI hE hop hx hev)
  | call c =>
    rw [hop] at hso; simp only [slimOp] at hso
    split at hso
    · rename_i f hcal
      simp only [Option.map_eq_some_iff] at hso
      obtain ⟨xs, hx, rfl⟩ := hso
      obtain ⟨h1, h2⟩ := slimXs_Vs hE hx
      simp only [SOp.ev] at hev
      obtain ⟨q1, q2⟩ := hcl f _ M v M' hev B w0 G w _ hI h1 h2
      refine wp_enter ?_ q2 hnext
      unfold execOp; rw [hop]
      simp [resolve, hcal, Deferred.ofValue, Act.eval, invoke, run_callFunc_enters q1]
    · rename_i x hne hcal
      split at hso
      · rename_i sx xs hx hxs
        obtain rfl := Option.some.inj hso
        obtain ⟨x1, x2⟩ := slimX_V hE hx
        obtain ⟨h1, h2⟩ := slimXs_Vs hE hxs
        simp only [SOp.ev] at hev
        split at hev
        · rename_i f cs hf
          rw [hf] at x1 x2
          obtain ⟨arr, e1, e2, e3⟩ := x1.fn_inv
          have hV : Vs G (evL e xs ++ cs) (c.args.map a.eval ++ arr) := by
            refine ⟨by simp [h1.1.symm, e2], fun j q hj => ?_⟩
            rw [getD_append]
            by_cases hjl : j < (evL e xs).length
            · rw [List.getElem?_append_left hjl] at hj
              rw [if_pos (by rw [h1.1]; exact hjl)]; exact h1.2 j q hj
            · rw [List.getElem?_append_right (by omega)] at hj
              rw [if_neg (by rw [h1.1]; exact hjl), h1.1]; exact e3 _ q hj
          have hB : bdL M.boxes.length (evL e xs ++ cs) = true := bdL_of fun q hq => by
            rcases List.mem_append.1 hq with hq | hq
            · exact bdL_mem h2 q hq
            · exact bdL_mem (by simpa only [bd] using x2) q hq
          obtain ⟨q1, q2⟩ := hcl f _ M v M' hev B w0 G w _ hI hV hB
          refine wp_enter ?_ q2 hnext
          unfold execOp; rw [hop]
          simp [resolve, hcal, Deferred.ofValue, e1, invoke, run_callFunc_enters q1]
        · cases hev
      · cases hso
    · rename_i hcal
      split at hso
      · rename_i t sx ht hx
        split at hso
        · rename_i hu; obtain rfl := Option.some.inj hso; exact ok (ok_lenS hI hE hop hcal ht hu hx hev)
        · rename_i e' hu; obtain rfl := Option.some.inj hso; exact ok (ok_len hI hE hop hcal ht hu hx hev)
        · cases hso
      · cases hso
    · rename_i hcal
      split at hso
      · rename_i t sx ht hx
        split at hso
        · rename_i e' hu
          split at hso
          · rename_i i zs hi hz
            split at hso
            · rename_i hc
              obtain rfl := Option.some.inj hso
              exact ok (ok_clr hI hE hop hcal ht hu hx hi hz hc.1 hc.2 hev)
            · cases hso
          · cases hso
        · cases hso
      · cases hso
    · rename_i hcal
      split at hso
      · rename_i t u sx sy hat hx
        split at hso
        · rename_i e' hu
          split at hso
          · rename_i i e'' hi hu2
            split at hso
            · rename_i hc
              obtain ⟨c1, c2, c3, c4⟩ := hc
              obtain rfl := Option.some.inj hso
              obtain ⟨z, hz⟩ := Option.isSome_iff_exists.1 c3
              exact ok (ok_app hI hE hop hcal (by apply Array.ext'; simpa using hat) hx hu hi hu2 hz (by simpa [hz] using c4) c2 hev)
            · cases hso
          · rename_i i hi hu2
            split at hso
            · rename_i hc
              obtain ⟨c1, c2, c3, c4⟩ := hc
              obtain rfl := Option.some.inj hso
              obtain ⟨z, hz⟩ := Option.isSome_iff_exists.1 c3
              exact ok (ok_appS hI hE hop hcal (by apply Array.ext'; simpa using hat) hx hu hi hu2 hz (by simpa [hz] using c4) ⟨c1, c2⟩ hev)
            · cases hso
          · cases hso
        · cases hso
      · cases hso
    · rename_i hcal
      split at hso
      · rename_i sx sy hx; obtain rfl := Option.some.inj hso; exact ok (ok_mn hI hE hop hcal hx hev)
      · cases hso
    · rename_i hcal
      split at hso
      · rename_i sx sy hx; obtain rfl := Option.some.inj hso; exact ok (ok_mx hI hE hop hcal hx hev)
      · cases hso
    · cases hso
  | _ => rw [hop] at hso; simp only [slimOp] at hso; cases hso
end
end Go.AM

namespace Go.AM
open AV Go.RowKit

section
variable {P : Program} {B : Nat} {w0 : World} {G : Gh} {M : Mem} {w : World} {a : Act} {e : Env} {o : Oper}

theorem put_size (a : Act) (d : Option Tmp) (x : Value) : (a.put d x).tmps.size = a.tmps.size := by cases d <;> simp [Act.put]
theorem put_defers (a : Act) (d : Option Tmp) (x : Value) : (a.put d x).defers = a.defers := by cases d <;> rfl

theorem put_getD (a : Act) (d : Option Tmp) (x : Value) (hd : dstOk a.tmps.size d = true) (t : Nat) : (a.put d x).tmps.getD t undef = if d = some t then x else a.tmps.getD t undef := by
  cases d with
  | none => simp [Act.put]
  | some d =>
    simp only [dstOk, decide_eq_true_eq] at hd
    simp only [Act.put, Option.some.injEq, Array.getD_eq_getD_getElem?, Array.getElem?_setIfInBounds]
    by_cases h : d = t
    · subst h; simp [hd]
    · simp [h]

theorem VE.put {n : Nat} {G G' : Gh} (hE : VE G n e a) (hle : G.le n G') {n' : Nat} (hn : n ≤ n') {d : Option Tmp} (hd : dstOk a.tmps.size d = true) {v : AV} {x : Value} (hv : V G' v x) (hb : bd n' v = true) :
    VE G' n' (updO e d v) (a.put d x) := by
  intro t
  rw [put_getD a d x hd]
  by_cases h : d = some t
  · subst h
    rw [if_pos rfl]
    simp only [updO, upd_same]
    exact ⟨hv, hb⟩
  · rw [if_neg h]
    have : updO e d v t = e t := by
      cases d with
      | none => rfl
      | some d => exact upd_ne e d v t (fun h' => h (by rw [h']))
    rw [this]
    exact ⟨(hE t).1.mono hle (hE t).2, bd_le hn _ (hE t).2⟩

theorem V_bool_getD {a : Act} {s : Nat} {b : Bool} (h : V G (.bool b) (a.tmps.getD s undef)) : a.tmps[s]? = some (.bool b) := by
  have := h.bool_inv
  rw [Array.getD_eq_getD_getElem?] at this
  cases hs : a.tmps[s]? with
  | none => rw [hs] at this; cases this
  | some v => rw [hs] at this; simpa using this

theorem wanted_of {ops : Array Oper} {g : Option (Nat × Bool)} {r : Bool} (hg : slimG ops o.guard = some g) (hE : VE G M.boxes.length e a) (h : wantA e g = some r) : Region.wanted o (yielded ops a.tmps) = r := by
  unfold slimG at hg
  split at hg
  · rename_i hn
    obtain rfl := Option.some.inj hg
    simp only [wantA, Option.some.injEq] at h
    subst h
    simp [Region.wanted, hn]
  · rename_i j want hj
    split at hg
    · rename_i s hs
      obtain rfl := Option.some.inj hg
      simp only [wantA] at h
      split at h
      · rename_i b hb
        simp only [Option.some.injEq] at h
        subst h
        have hV := (hE s).1
        rw [hb] at hV
        have h1 := V_bool_getD hV
        simp only [Region.wanted, hj, yielded, hs, Option.bind_some, h1]
        cases b <;> cases want <;> rfl
      · rename_i hb
        simp only [Option.some.injEq] at h
        subst h
        have hV := (hE s).1
        rw [hb] at hV
        have hu : a.tmps.getD s undef = undef := hV.und_inv
        have h1 : ∀ t : Bool, a.tmps[s]? ≠ some (.bool t) := fun t ht => by
          rw [Array.getD_eq_getD_getElem?, ht] at hu
          cases hu
        have h2 : yielded ops a.tmps j = none := by
          unfold yielded
          rw [hs, Option.bind_some]
          split
          · rename_i t ht; exact absurd ht (h1 t)
          · rfl
        simp only [Region.wanted, hj, h2]
        cases want <;> rfl
      · cases h
    · cases hg

theorem slimI_inv {nt : Nat} {ops : Array Oper} {si : SI} (h : slimI P nt ops o = some si) : slimOp' P o.op = some si.o ∧ slimG ops o.guard = some si.g ∧ si.d = o.dst ∧ dstOk nt o.dst = true := by
  unfold slimI at h
  split at h
  · rename_i so g h1 h2
    split at h
    · rename_i h3
      obtain rfl := Option.some.inj h
      exact ⟨h1, h2, rfl, h3⟩
    · cases h
  · cases h

/-- One operation of a region, guarded or not. -/
theorem si_sound {ops : Array Oper} {si : SI} {cl : FuncId → List AV → Mem → Option (AV × Mem)} (hcl : ClOk P cl) (hI : Inv B w0 G M w) (hE : VE G M.boxes.length e a) (hs : slimI P a.tmps.size ops o = some si)
    {v : AV} {M' : Mem} (hev : si.ev cl e M = some (v, M')) {i : Nat} (hi : ops[i]? = some o) {K : Act → World → Prop} {Q : Exit → Act → World → Prop}
    (hnext : ∀ x w' G', Goes B M.boxes.length G G' → Inv B w0 G' M' w' → V G' v x → bd M'.boxes.length v = true → M.boxes.length ≤ M'.boxes.length → K (a.put o.dst x) w') : wpOp P ops Q i K a w := by
  obtain ⟨h1, h2, h3, h4⟩ := slimI_inv hs
  unfold SI.ev at hev
  unfold wpOp
  simp only [hi]
  split at hev
  · rename_i hw
    rw [wanted_of h2 hE hw, if_pos rfl]
    exact .inl (op_sound hcl hI hE h1 hev hnext)
  · rename_i hw
    simp only [Option.some.injEq, Prod.mk.injEq] at hev
    obtain ⟨rfl, rfl⟩ := hev
    rw [wanted_of h2 hE hw, if_neg (by simp)]
    exact hnext undef w G (Goes.refl ..) hI .und rfl (Nat.le_refl _)
  · cases hev

/-- What is handed on behind a piece of code. -/
structure Post (B : Nat) (w0 : World) (n : Nat) (G : Gh) (a : Act) (e' : Env) (M' : Mem) (a' : Act) (w' : World) : Prop where
  defers : a'.defers = a.defers
  size : a'.tmps.size = a.tmps.size
  gh : ∃ G', Goes B n G G' ∧ Inv B w0 G' M' w' ∧ VE G' M'.boxes.length e' a'
  len : n ≤ M'.boxes.length

/-- A region in the order of its text. -/
theorem ops_sound {ops : Array Oper} {cl : FuncId → List AV → Mem → Option (AV × Mem)} (hcl : ClOk P cl) {nt : Nat} {Q : Exit → Act → World → Prop} : ∀ (l : List Oper) (sis : List SI) (k : Nat) (e : Env) (M : Mem) (G : Gh) (a : Act) (w : World),
    (∀ j, l[j]? = ops[k + j]?) → slimL P nt ops l = some sis → a.tmps.size = nt → Inv B w0 G M w → VE G M.boxes.length e a → ∀ e' M', evOps cl e M sis = some (e', M') →
    (∀ a' w', Post B w0 M.boxes.length G a e' M' a' w' → Q .normal a' w') → wpOps P ops Q (List.range' k l.length) a w
  | [], sis, k, e, M, G, a, w, _, hs, _, hI, hE, e', M', hev, hQ => by
    cases hs
    simp only [evOps, Option.some.injEq, Prod.mk.injEq] at hev
    obtain ⟨rfl, rfl⟩ := hev
    exact hQ a w ⟨rfl, rfl, ⟨G, Goes.refl .., hI, hE⟩, Nat.le_refl _⟩
  | o :: r, sis, k, e, M, G, a, w, hl, hs, hnt, hI, hE, e', M', hev, hQ => by
    simp only [slimL] at hs
    split at hs
    · rename_i si sl h1 h2
      obtain rfl := Option.some.inj hs
      simp only [evOps] at hev
      split at hev
      · rename_i v M1 hv
        simp only [List.length_cons, List.range'_succ]
        rw [wpOps_cons]
        have ho : ops[k]? = some o := by have := hl 0; simpa using this.symm
        subst hnt
        obtain ⟨-, -, hd, hdok⟩ := slimI_inv h1
        refine si_sound hcl hI hE h1 hv ho fun x w' G' g1 g2 g3 g4 g5 => ?_
        have hE' := hE.put g1.le g5 hdok g3 g4
        rw [← hd] at hE' ⊢
        refine ops_sound hcl r sl (k + 1) _ M1 G' _ w' (fun j => by have := hl (j + 1); rw [show k + 1 + j = k + (j + 1) by omega]; simpa using this) h2 (put_size ..) g2 hE' e' M' hev fun a' w'' hp => hQ a' w'' ?_
        obtain ⟨p1, p2, ⟨G'', p3, p4, p5⟩, p6⟩ := hp
        exact ⟨by rw [p1, put_defers], by rw [p2, put_size], ⟨G'', g1.trans p3 g5, p4, p5⟩, by omega⟩
      · cases hev
    · cases hs
end

/-! ### A region that draws its order -/
def X.reads : X → List Nat
  | .t n => [n]
  | .c _ => []
def readsL : List X → List Nat
  | [] => []
  | x :: r => x.reads ++ readsL r
def readsP : List (Nat × Nat × X) → List Nat
  | [] => []
  | (_, _, x) :: r => x.reads ++ readsP r
def readsO : Option X → List Nat
  | none => []
  | some x => x.reads
def SOp.reads : SOp → List Nat
  | .al _ | .be => []
  | .mkb _ _ x | .clr _ x | .mv x | .bx x | .ld _ _ x | .nc x | .nt x | .ng x | .cv _ x | .b2s x | .fa _ x | .fld _ _ _ x | .ext _ x | .len x | .lenS x => x.reads
  | .pk c a b => c.reads ++ a.reads ++ b.reads
  | .bd _ ps => readsP ps
  | .bs _ xs => readsL xs
  | .st _ x y | .bin _ x y | .beq _ x y | .seq _ _ x y | .mk _ _ x y | .ia _ x y | .iaA _ _ x y | .ixA _ _ _ x y | .ixS x y | .app _ _ x y | .appS x y | .mn x y | .mx x y => x.reads ++ y.reads
  | .mf _ xs => readsL xs
  | .sls x lo hi | .slc _ x lo hi => x.reads ++ readsO lo ++ readsO hi
  | .call _ xs => readsL xs
  | .dyn x xs => x.reads ++ readsL xs
def SOp.main : SOp → Bool
  | .al _ | .bx _ | .bs .. | .st .. | .mk .. | .mkb .. | .clr .. | .app .. | .appS .. | .call .. | .dyn .. => true
  | _ => false
def SOp.isSt : SOp → Bool
  | .st .. | .clr .. => true
  | _ => false
def SOp.isLd : SOp → Bool
  | .ld .. => true
  | _ => false
def SI.reads (i : SI) : List Nat := i.o.reads ++ (match i.g with | some (s, _) => [s] | none => [])

theorem X.ev_congr {e e' : Env} {x : X} (h : ∀ t ∈ x.reads, e t = e' t) : x.ev e = x.ev e' := by
  cases x with
  | t n => exact h n (by simp [X.reads])
  | c v => rfl
theorem evL_congr {e e' : Env} : ∀ {xs : List X}, (∀ t ∈ readsL xs, e t = e' t) → evL e xs = evL e' xs
  | [], _ => rfl
  | x :: r, h => by
    simp only [readsL, List.mem_append] at h
    simp only [evL]
    rw [X.ev_congr (e := e) (e' := e') fun t ht => h t (.inl ht), evL_congr fun t ht => h t (.inr ht)]
theorem evP_congr {e e' : Env} : ∀ {ps : List (Nat × Nat × X)}, (∀ t ∈ readsP ps, e t = e' t) → evP e ps = evP e' ps
  | [], _ => rfl
  | (k, n, x) :: r, h => by
    simp only [readsP, List.mem_append] at h
    simp only [evP]
    rw [X.ev_congr (e := e) (e' := e') fun t ht => h t (.inl ht), evP_congr fun t ht => h t (.inr ht)]
theorem evO_congr {e e' : Env} {x : Option X} (h : ∀ t ∈ readsO x, e t = e' t) : x.map (·.ev e) = x.map (·.ev e') := by
  cases x with
  | none => rfl
  | some x => simp only [Option.map_some]; rw [X.ev_congr h]

theorem SOp.ev_congr {cl : FuncId → List AV → Mem → Option (AV × Mem)} {e e' : Env} {M : Mem} {so : SOp} (h : ∀ t ∈ so.reads, e t = e' t) : so.ev cl e M = so.ev cl e' M := by
  cases so <;> simp only [SOp.reads, List.mem_append] at h <;> simp only [SOp.ev]
  case mkb x | clr x | mv x | bx x | ld x | nc x | nt x | ng x | cv x | b2s x | fa x | fld x | ext x | len x | lenS x => rw [X.ev_congr h]
  case pk c a b => rw [X.ev_congr (x := c) fun t ht => h t (.inl (.inl ht)), X.ev_congr (x := a) fun t ht => h t (.inl (.inr ht)), X.ev_congr (x := b) fun t ht => h t (.inr ht)]
  case bd zs ps => rw [evP_congr h]
  case bs xs => rw [evL_congr h]
  case st x y | bin x y | beq x y | seq x y | mk x y | ia x y | iaA x y | ixA x y | ixS x y | app x y | appS x y | mn x y | mx x y => rw [X.ev_congr (x := x) fun t ht => h t (.inl ht), X.ev_congr (x := y) fun t ht => h t (.inr ht)]
  case mf xs => rw [evL_congr h]
  case sls x lo hi => rw [X.ev_congr (x := x) fun t ht => h t (.inl (.inl ht)), evO_congr (x := lo) fun t ht => h t (.inl (.inr ht)), evO_congr (x := hi) fun t ht => h t (.inr ht)]
  case slc x lo hi => rw [X.ev_congr (x := x) fun t ht => h t (.inl (.inl ht)), evO_congr (x := lo) fun t ht => h t (.inl (.inr ht)), evO_congr (x := hi) fun t ht => h t (.inr ht)]
  case call f xs => rw [evL_congr h]
  case dyn x xs => rw [X.ev_congr (x := x) fun t ht => h t (.inl ht), evL_congr (xs := xs) fun t ht => h t (.inr ht)]

theorem SI.ev_congr {cl : FuncId → List AV → Mem → Option (AV × Mem)} {e e' : Env} {M : Mem} {i : SI} (h : ∀ t ∈ i.reads, e t = e' t) : i.ev cl e M = i.ev cl e' M := by
  unfold SI.reads at h
  simp only [List.mem_append] at h
  have h1 : wantA e i.g = wantA e' i.g := by
    cases hg : i.g with
    | none => rfl
    | some p => obtain ⟨s, b⟩ := p; simp only [wantA]; rw [h s (.inr (by simp [hg]))]
  unfold SI.ev
  rw [h1, SOp.ev_congr fun t ht => h t (.inl ht)]
end Go.AM
