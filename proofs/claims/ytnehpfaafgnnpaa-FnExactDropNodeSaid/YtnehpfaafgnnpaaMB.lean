/- The model's operations read as operations of the tree machine: the reading 'slimOp', and that each such operation does there what it does here. Each operation that calls nothing does in the model what it does in the tree machine. More operations: stores, literals, slices, indexes, lengths. -/
import Derived.Test.YtnehpfaafgnnpaaMA
import Derived.Laws.Tables
import Derived.Laws.Append
import Derived.Deep.MidRow
import Derived.Laws.Wrap64
import Derived.Laws.Small
import Derived.Laws.BytesString
set_option linter.unusedSimpArgs false
set_option linter.unusedVariables false
set_option linter.unnecessarySimpa false
namespace Go.AM
open AV Go.RowKit

def toAV1 : Value → Option AV
  | .int k n => some (.int k n)
  | .bool b => some (.bool b)
  | .string s => some (.str s)
  | .pointer none => some .nil
  | .slice none 0 0 => some (.sl .nl [])
  | _ => none
def toAVs : List Value → Option (List AV)
  | [] => some []
  | v :: r => match toAV1 v, toAVs r with
    | some a, some l => some (a :: l)
    | _, _ => none
def toAV : Value → Option AV
  | .agg cs => (toAVs cs.toList).map .agg
  | v => toAV1 v

def slimX : Operand → Option X
  | .tmp t => some (.t t)
  | .const v => (toAV v).map .c
  | .func f => some (.c (.fn f []))
  | .global _ => none
def slimXs : List Operand → Option (List X)
  | [] => some []
  | x :: r => match slimX x, slimXs r with
    | some a, some l => some (a :: l)
    | _, _ => none
def slimO : Option Operand → Option (Option X)
  | none => some none
  | some x => (slimX x).map some
def slimParts (place : Nat → Option (Nat × Nat)) : List (Nat × Operand) → Option (List (Nat × Nat × X))
  | [] => some []
  | (i, x) :: r => match place i, slimX x, slimParts place r with
    | some (o, n), some a, some l => some ((o, n, a) :: l)
    | _, _, _ => none

def aggType (P : Program) (t : TypeId) : Option Bool :=
  match P.underlying t with
  | some (.struct _) => some true
  | some (.array _ _) => some true
  | some _ => some false
  | none => none
def sizeT (P : Program) (t : TypeId) : Option Nat := (P.info? t).map (·.size)
def zeroT (P : Program) (t : TypeId) : Option (List AV) :=
  match P.info? t with
  | some i => match i.zero with
    | some z => toAVs z.cells.toList
    | none => none
  | none => none

def sameX : X → X → Bool
  | .t a, .t b => a == b
  | _, _ => false

def slimOp (P : Program) : Op → Option SOp
  | .move x => (slimX x).map .mv
  | .assign x => (slimX x).map .mv
  | .pick c a b => match slimX c, slimX a, slimX b with
    | some c, some a, some b => some (.pk c a b)
    | _, _, _ => none
  | .alloc t => (zeroT P t).map .al
  | .box _ x => (slimX x).map .bx
  | .build t parts => match P.info? t, P.underlying t with
    | some it, some (.array _ e) => match it.zero, P.info? e with
      | some z, some ie => match toAVs z.cells.toList, slimParts (fun i => some (i * ie.size, ie.size)) parts.toList with
        | some zs, some ps => some (.bd zs ps)
        | _, _ => none
      | _, _ => none
    | some it, some (.struct fields) => match it.zero, fields.toList.mapM (fun f => (P.info? f.type).map fun i => (f.offset, i.size)) with
      | some z, some places => match toAVs z.cells.toList, slimParts (fun i => places.toArray[i]?) parts.toList with
        | some zs, some ps => some (.bd zs ps)
        | _, _ => none
      | _, _ => none
    | _, _ => none
  | .load t x => match aggType P t, sizeT P t, slimX x with
    | some true, some n, some x => some (.ld true n x)
    | some false, _, some x => some (.ld false 1 x)
    | _, _, _ => none
  | .store t x y => match sizeT P t, slimX x, slimX y with
    | some n, some x, some y => some (.st n x y)
    | _, _, _ => none
  | .nilCheck x => (slimX x).map .nc
  | .binOp op t x y _ => match slimX x, slimX y with
    | some x, some y => match P.underlying t with
      | some (.int _) => some (.bin op x y)
      | some .string => some (.bin op x y)
      | some .bool => match op with
        | .eql => some (.beq false x y)
        | .neq => some (.beq true x y)
        | _ => none
      | _ => none
    | _, _ => none
  | .unOp .not _ x => (slimX x).map .nt
  | .unOp .neg _ x => (slimX x).map .ng
  | .convert s d x => match P.underlying s, P.underlying d, slimX x with
    | some (.int _), some (.int k), some x => some (.cv k x)
    | some (.slice e), some .string, some x => match P.underlying e with
      | some (.int .u8) => some (.b2s x)
      | _ => none
    | _, _, _ => none
  | .makeFunc (.func f) first cs => if first.isEmpty then (slimXs cs.toList).map (.mf f) else none
  | .makeSlice t x y => match P.underlying t with
    | some (.slice e) => match P.info? e, aggType P e, zeroT P e, slimX x, slimX y with
      | some i, some false, some [z], some x, some y => if i.size = 1 then some (if sameX x y then .mkb z i.bytes x else .mk z i.bytes x y) else none
      | some i, some true, some zs, some x, some y => if i.size = zs.length ∧ 0 < zs.length then some (if sameX x y then .mkb (.agg zs) i.bytes x else .mk (.agg zs) i.bytes x y) else none
      | _, _, _, _, _ => none
    | _ => none
  | .buildSlice t len parts => match P.underlying t with
    | some (.slice e) => match P.info? e, slimXs (parts.toList.map (·.2)) with
      | some i, some xs => if parts.toList.map (·.1) = List.range len ∧ len * i.size ≤ 16777216 ∧ i.zero.isSome = true ∧ (i.zero.map fun z => decide (0 < z.cells.size)) = some true then some (if len = 0 then .be else .bs i.size xs) else none
      | _, _ => none
    | _ => none
  | .slice t x lo hi none => match P.underlying t, slimX x, slimO lo, slimO hi with
    | some .string, some x, some lo, some hi => some (.sls x lo hi)
    | some (.slice e), some x, some lo, some hi => (sizeT P e).map fun n => .slc n x lo hi
    | _, _, _, _ => none
  | .fieldAddr t x f => match P.underlying t with
    | some (.struct fs) => match fs[f]? with
      | some fd => match sizeT P fd.type, slimX x with
        | some n, some x => if 0 < n then some (.fa fd.offset x) else none
        | _, _ => none
      | none => none
    | _ => none
  | .field t x f => match P.underlying t with
    | some (.struct fs) => match fs[f]? with
      | some fd => match aggType P fd.type, sizeT P fd.type, slimX x with
        | some true, some n, some x => some (.fld true n fd.offset x)
        | some false, some _, some x => some (.fld false 1 fd.offset x)
        | _, _, _ => none
      | none => none
    | _ => none
  | .indexAddr t x i => match P.underlying t with
    | some (.slice e) => match sizeT P e, slimX x, slimX i with
      | some n, some x, some i => some (.ia n x i)
      | _, _, _ => none
    | some (.array len e) => match sizeT P e, slimX x, slimX i with
      | some n, some x, some i => some (.iaA len n x i)
      | _, _, _ => none
    | _ => none
  | .index t x i => match P.underlying t with
    | some .string => match slimX x, slimX i with
      | some x, some i => some (.ixS x i)
      | _, _ => none
    | some (.array len e) => match aggType P e, sizeT P e, slimX x, slimX i with
      | some true, some n, some x, some i => some (.ixA true len n x i)
      | some false, some 1, some x, some i => some (.ixA false len 1 x i)
      | _, _, _, _ => none
    | _ => none
  | .extract x i => (slimX x).map (.ext i)
  | .call c => match c.callee with
    | .value (.func f) => (slimXs c.args.toList).map (.call f)
    | .value x => match slimX x, slimXs c.args.toList with
      | some x, some as => some (.dyn x as)
      | _, _ => none
    | .builtin .len => match c.argTypes[0]?, slimXs c.args.toList with
      | some t, some [x] => match P.underlying t with
        | some .string => some (.lenS x)
        | some (.slice _) => some (.len x)
        | _ => none
      | _, _ => none
    | .builtin .clear => match c.argTypes[0]?, slimXs c.args.toList with
      | some t, some [x] => match P.underlying t with
        | some (.slice e) => match P.info? e, zeroT P e with
          | some i, some zs => if i.size = zs.length ∧ 0 < zs.length then some (.clr zs x) else none
          | _, _ => none
        | _ => none
      | _, _ => none
    | .builtin .append => match c.argTypes.toList, slimXs c.args.toList with
      | [t, u], some [x, y] => match P.underlying t with
        | some (.slice e) => match P.info? e, P.underlying u with
          | some i, some (.slice _) => if 0 < i.size ∧ 0 < i.bytes ∧ i.zero.isSome = true ∧ (i.zero.map fun z => z.cells.size) = some i.size then some (.app i.size i.bytes x y) else none
          | some i, some .string => if i.size = 1 ∧ i.bytes = 1 ∧ i.zero.isSome = true ∧ (i.zero.map fun z => z.cells.size) = some i.size then some (.appS x y) else none
          | _, _ => none
        | _ => none
      | _, _ => none
    | .builtin .min => match slimXs c.args.toList with
      | some [x, y] => some (.mn x y)
      | _ => none
    | .builtin .max => match slimXs c.args.toList with
      | some [x, y] => some (.mx x y)
      | _ => none
    | _ => none
  | _ => none

/-- Each slot's value stands for what the model has in it. -/
def VE (G : Gh) (n : Nat) (e : Env) (a : Act) : Prop := ∀ t, V G (e t) (a.tmps.getD t undef) ∧ bd n (e t) = true

/-- Cells pointwise. -/
def Vs (G : Gh) (cs : List AV) (arr : Array Value) : Prop := arr.size = cs.length ∧ ∀ j c, cs[j]? = some c → V G c (arr.getD j undef)

theorem toAV1_one {v : Value} {x : AV} (h : toAV1 v = some x) : x.one = true := by
  cases v with
  | int k n => cases h; rfl
  | bool b => cases h; rfl
  | string s => cases h; rfl
  | pointer a => cases a with
    | none => cases h; rfl
    | some a => cases h
  | slice a n c =>
    cases a with
    | some a => cases h
    | none =>
      cases n with
      | succ n => cases h
      | zero => cases c with
        | succ c => cases h
        | zero => cases h; rfl
  | _ => cases h
theorem toAVs_one : ∀ {vs : List Value} {xs : List AV}, toAVs vs = some xs → ∀ x ∈ xs, x.one = true
  | [], xs, h, x, hx => by cases h; cases hx
  | v :: r, xs, h, x, hx => by
    simp only [toAVs] at h
    split at h
    · rename_i p l hp hl
      obtain rfl := Option.some.inj h
      cases hx with
      | head => exact toAV1_one hp
      | tail _ hx => exact toAVs_one hl x hx
    · cases h

theorem toAV1_V {v : Value} {x : AV} (h : toAV1 v = some x) (G : Gh) : V G x v ∧ (∀ n, bd n x = true) ∧ x.known = true ∧ x.cells = [x] := by
  cases v with
  | int k n => cases h; exact ⟨.int k n, fun _ => rfl, rfl, rfl⟩
  | bool b => cases h; exact ⟨.bool b, fun _ => rfl, rfl, rfl⟩
  | string s => cases h; exact ⟨.str s, fun _ => rfl, rfl, rfl⟩
  | pointer a => cases a with
    | none => cases h; exact ⟨.nil, fun _ => rfl, rfl, rfl⟩
    | some a => cases h
  | slice a len cap =>
    cases a with
    | some a => simp [toAV1] at h
    | none =>
      cases len with
      | succ n => simp [toAV1] at h
      | zero =>
        cases cap with
        | succ n => simp [toAV1] at h
        | zero =>
          cases h
          exact ⟨.sl .nl [] none 0 0 0 0 0 (fun _ => undef) rfl (Nat.le_refl _) (fun _ h => by cases h) (fun h => absurd rfl h) (fun j hj => by simp [flat] at hj) (fun j c hc => by simp [flat] at hc) (fun _ => rfl) (fun i h => by cases h), fun _ => rfl, rfl, rfl⟩
  | _ => cases h

theorem toAVs_V : ∀ {vs : List Value} {xs : List AV}, toAVs vs = some xs → ∀ G : Gh, xs.length = vs.length ∧ (∀ (j : Nat) (c : AV), xs[j]? = some c → ∃ v, vs[j]? = some v ∧ V G c v) ∧ (∀ n, bdL n xs = true)
  | [], xs, h, G => by cases h; exact ⟨rfl, fun j c hc => by simp at hc, fun _ => rfl⟩
  | v :: r, xs, h, G => by
    simp only [toAVs] at h
    split at h
    · rename_i a l ha hl
      obtain rfl := Option.some.inj h
      obtain ⟨h1, h2, _⟩ := toAV1_V ha G
      obtain ⟨q1, q2, q3⟩ := toAVs_V hl G
      refine ⟨by simp [q1], fun j c hc => ?_, fun n => by simp [bdL, h2 n, q3 n]⟩
      cases j with
      | zero => simp at hc; subst hc; exact ⟨v, rfl, h1⟩
      | succ j => simp at hc; simpa using q2 j c hc
    · cases h

theorem toAVs_Vs {arr : Array Value} {xs : List AV} (h : toAVs arr.toList = some xs) (G : Gh) : Vs G xs arr ∧ ∀ n, bdL n xs = true := by
  obtain ⟨h1, h2, h3⟩ := toAVs_V h G
  refine ⟨⟨by simp [h1], fun j c hc => ?_⟩, h3⟩
  obtain ⟨v, hv, hV⟩ := h2 j c hc
  have : arr[j]? = some v := by simpa using hv
  simp [this, hV]

theorem toAV_V {v : Value} {x : AV} (h : toAV v = some x) (G : Gh) : V G x v ∧ (∀ n, bd n x = true) := by
  cases v with
  | agg cs =>
    simp only [toAV, Option.map_eq_some_iff] at h
    obtain ⟨l, hl, rfl⟩ := h
    obtain ⟨⟨h1, h2⟩, h3⟩ := toAVs_Vs hl G
    exact ⟨.agg l cs h1 h2, fun n => by simpa [bd] using h3 n⟩
  | _ => (simp only [toAV] at h; exact ⟨(toAV1_V h G).1, (toAV1_V h G).2.1⟩)

theorem slimX_V {G : Gh} {n : Nat} {e : Env} {a : Act} (hE : VE G n e a) {o : Operand} {x : X} (h : slimX o = some x) : V G (x.ev e) (a.eval o) ∧ bd n (x.ev e) = true := by
  cases o with
  | tmp t => cases h; exact hE t
  | const v =>
    simp only [slimX, Option.map_eq_some_iff] at h
    obtain ⟨c, hc, rfl⟩ := h
    exact ⟨(toAV_V hc G).1, (toAV_V hc G).2 n⟩
  | func f => cases h; exact ⟨.fn f [] #[] rfl (fun j c hc => by simp at hc), rfl⟩
  | global g => cases h

theorem slimXs_V {G : Gh} {n : Nat} {e : Env} {a : Act} (hE : VE G n e a) : ∀ {os : List Operand} {xs : List X}, slimXs os = some xs →
    (evL e xs).length = os.length ∧ xs.length = os.length ∧ (∀ (j : Nat) (c : AV), (evL e xs)[j]? = some c → ∃ o, os[j]? = some o ∧ V G c (a.eval o)) ∧ bdL n (evL e xs) = true
  | [], xs, h => by cases h; exact ⟨rfl, rfl, fun j c hc => by simp [evL] at hc, rfl⟩
  | o :: r, xs, h => by
    simp only [slimXs] at h
    split at h
    · rename_i x l hx hl
      obtain rfl := Option.some.inj h
      obtain ⟨h1, h2⟩ := slimX_V hE hx
      obtain ⟨q1, q2, q3, q4⟩ := slimXs_V hE hl
      refine ⟨by simp [evL, q1], by simp [q2], fun j c hc => ?_, by simp [evL, bdL, h2, q4]⟩
      cases j with
      | zero => simp [evL] at hc; subst hc; exact ⟨o, rfl, h1⟩
      | succ j => simp [evL] at hc; simpa using q3 j c hc
    · cases h

theorem slimXs_Vs {G : Gh} {n : Nat} {e : Env} {a : Act} (hE : VE G n e a) {os : Array Operand} {xs : List X} (h : slimXs os.toList = some xs) :
    Vs G (evL e xs) (os.map a.eval) ∧ bdL n (evL e xs) = true := by
  obtain ⟨h1, _, h3, h4⟩ := slimXs_V hE h
  refine ⟨⟨by simp [h1], fun j c hc => ?_⟩, h4⟩
  obtain ⟨o, ho, hV⟩ := h3 j c hc
  have : os[j]? = some o := by simpa using ho
  simp [this, hV]

end Go.AM

namespace Go.AM
open AV Go.RowKit

section
variable {P : Program} {B : Nat} {w0 : World} {G : Gh} {M : Mem} {w : World} {a : Act} {e : Env} {o : Oper}

/-- The operation comes to v, and the memory to M'. -/
def OpOk (P : Program) (o : Oper) (a : Act) (w : World) (B : Nat) (w0 : World) (n : Nat) (G : Gh) (v : AV) (M' : Mem) : Prop :=
  ∃ x w' G', ((execOp a.eval o).run P w = .ok (.value x) w' ∨ ((execOp a.eval o).run P w = .ok .skip w' ∧ x = undef)) ∧
    Goes B n G G' ∧ Inv B w0 G' M' w' ∧ V G' v x ∧ bd M'.boxes.length v = true ∧ n ≤ M'.boxes.length

theorem OpOk.same {v : AV} {x : Value} (hI : Inv B w0 G M w) (hr : (execOp a.eval o).run P w = .ok (.value x) w) (hv : V G v x) (hb : bd M.boxes.length v = true) :
    OpOk P o a w B w0 M.boxes.length G v M := ⟨x, w, G, .inl hr, Goes.refl .., hI, hv, hb, Nat.le_refl _⟩

theorem list_ext_getD {l : List AV} {P' : Nat → AV → Prop} (h : ∀ j c, l[j]? = some c → P' j c) : ∀ j (hj : j < l.length), P' j l[j] :=
  fun j hj => h j _ (List.getElem?_eq_getElem hj)

theorem cut_agg {n o : Nat} {cs : List AV} {v : AV} (h : cut true n o cs = some v) : o + n ≤ cs.length ∧ v = .agg ((cs.drop o).take n) := by
  unfold cut at h
  split at h
  · exact ⟨‹_›, by simpa using h.symm⟩
  · cases h
theorem cut_one {o : Nat} {cs : List AV} {v : AV} (h : cut false 1 o cs = some v) : cs[o]? = some v := by
  unfold cut at h
  split at h
  · simpa using h
  · cases h

theorem run_isAgg {t : TypeId} {b : Bool} (h : aggType P t = some b) (w : World) : (isAgg t).run P w = .ok b w := by
  unfold aggType at h
  cases hu : P.underlying t with
  | none => simp [hu] at h
  | some d =>
    unfold isAgg
    rw [Sem.run_bind, run_underlying hu w]
    cases d <;> simp [hu] at h <;> subst h <;> rfl
theorem run_sizeOf {t : TypeId} {n : Nat} (h : sizeT P t = some n) (w : World) : (sizeOf t).run P w = .ok n w := by
  unfold sizeT at h
  cases hi : P.info? t with
  | none => simp [hi] at h
  | some i => simp [hi] at h; simp [sizeOf, typeInfo, hi, h]

theorem V_take {cs : List AV} {vs : Nat → Value} {n o : Nat} (hn : o + n ≤ cs.length) (h : ∀ j c, cs[j]? = some c → V G c (vs j)) :
    V G (.agg ((cs.drop o).take n)) (.agg (((List.range n).map fun j => vs (o + j)).toArray)) := by
  refine .agg _ _ (by simp; omega) fun j c hc => ?_
  have hj : j < n := by have := getElem?_lt hc; simp at this; omega
  rw [List.getElem?_take, if_pos hj, List.getElem?_drop] at hc
  simpa [hj] using h (o + j) c hc

theorem bd_take {m n o : Nat} {cs : List AV} (h : bdL m cs = true) : bd m (.agg ((cs.drop o).take n)) = true := by
  simp only [bd]
  exact bdL_of fun c hc => bdL_mem h c (List.mem_of_mem_drop (List.mem_of_mem_take hc))

theorem Addr.add_plain (b o n : Nat) : (⟨b, o, none⟩ : Addr).add n = ⟨b, o + n, none⟩ := by unfold Addr.add; split <;> simp_all

/-- A load of what lies in known cells. -/
theorem load_known {t : TypeId} {ag : Bool} {n : Nat} (hag : aggType P t = some ag) (hn : (ag = true ∧ sizeT P t = some n) ∨ (ag = false ∧ n = 1))
    {blk off o' : Nat} {cs : List AV} {vs : Nat → Value} (hc : ∀ j, j < cs.length → w.cell? ⟨blk, off + j, none⟩ = some (vs j)) (hv : ∀ j c, cs[j]? = some c → V G c (vs j))
    {v : AV} (hcut : cut ag n o' cs = some v) :
    ∃ x, (Instr.loadAt t (.pointer (some ⟨blk, off + o', none⟩))).run P w = .ok x w ∧ V G v x ∧ ∀ m, bdL m cs = true → bd m v = true := by
  rcases hn with ⟨rfl, hsz⟩ | ⟨rfl, rfl⟩
  · obtain ⟨h1, rfl⟩ := cut_agg hcut
    have hl : (loadCells ⟨blk, off + o', none⟩ n).run P w = .ok ((List.range n).map fun j => vs (o' + j)).toArray w :=
      run_loadCells w _ n _ fun j hj => by rw [Addr.add_plain, show off + o' + j = off + (o' + j) by omega]; exact hc _ (by omega)
    refine ⟨_, ?_, V_take h1 hv, fun m hm => bd_take hm⟩
    simp [Instr.loadAt, Instr.sureAddr, loadVar, run_isAgg hag, run_sizeOf hsz, hl]
  · have h1 := cut_one hcut
    have h2 := hc o' (getElem?_lt h1)
    refine ⟨vs o', ?_, hv _ _ h1, fun m hm => bdL_mem hm _ (getElem?_mem' h1)⟩
    simp [Instr.loadAt, Instr.sureAddr, loadVar, run_isAgg hag, h2]

theorem Inv.box_fun (hI : Inv B w0 G M w) {i : Nat} {cs : List AV} (hb : M.boxes[i]? = some cs) :
    ∃ vs : Nat → Value, (∀ j, j < cs.length → w.cell? ⟨G.ρ i, j, none⟩ = some (vs j) ∧ w.frozen? ⟨G.ρ i, j, none⟩ = false) ∧ (∀ j c, cs[j]? = some c → V G c (vs j)) ∧ bdL M.boxes.length cs = true := by
  obtain ⟨h1, h2⟩ := hI.box i cs hb
  refine ⟨fun j => (w.cell? ⟨G.ρ i, j, none⟩).getD undef, fun j hj => ?_, fun j c hc => ?_, h1⟩
  · obtain ⟨x, q1, q2, _⟩ := h2 j _ (List.getElem?_eq_getElem hj)
    exact ⟨by simp [q1], q2⟩
  · obtain ⟨x, q1, _, q3⟩ := h2 j c hc
    simpa [q1] using q3

theorem ok_mv {x : Operand} {sx : X} (hI : Inv B w0 G M w) (hE : VE G M.boxes.length e a) (ho : o.op = .move x ∨ o.op = .assign x) (hx : slimX x = some sx) {v : AV} {M' : Mem}
    {cl : FuncId → List AV → Mem → Option (AV × Mem)} (hev : (SOp.mv sx).ev cl e M = some (v, M')) : OpOk P o a w B w0 M.boxes.length G v M' := by
  simp only [SOp.ev, Option.some.injEq, Prod.mk.injEq] at hev
  obtain ⟨rfl, rfl⟩ := hev
  obtain ⟨h1, h2⟩ := slimX_V hE hx
  refine .same hI ?_ h1 h2
  unfold execOp
  rcases ho with ho | ho <;> rw [ho] <;> rfl

theorem ok_pk {c x y : Operand} {sc sx sy : X} (hI : Inv B w0 G M w) (hE : VE G M.boxes.length e a) (ho : o.op = .pick c x y) (hc : slimX c = some sc) (hx : slimX x = some sx) (hy : slimX y = some sy)
    {v : AV} {M' : Mem} {cl : FuncId → List AV → Mem → Option (AV × Mem)} (hev : (SOp.pk sc sx sy).ev cl e M = some (v, M')) : OpOk P o a w B w0 M.boxes.length G v M' := by
  obtain ⟨c1, c2⟩ := slimX_V hE hc
  obtain ⟨x1, x2⟩ := slimX_V hE hx
  obtain ⟨y1, y2⟩ := slimX_V hE hy
  simp only [SOp.ev] at hev
  split at hev
  · rename_i t ht
    simp only [Option.some.injEq, Prod.mk.injEq] at hev
    obtain ⟨rfl, rfl⟩ := hev
    rw [ht] at c1
    have hcv := c1.bool_inv
    cases t
    · refine .same hI (x := a.eval y) ?_ y1 y2
      unfold execOp; rw [ho]; simp [hcv, asBool]
    · refine .same hI (x := a.eval x) ?_ x1 x2
      unfold execOp; rw [ho]; simp [hcv, asBool]
  · cases hev

/-- A new block with the cells arr, and the box cs that they stand for. -/
theorem ok_new {arr : Array Value} {cs : List AV} {t : TypeId} (hI : Inv B w0 G M w) (hV : Vs G cs arr) (hb : bdL M.boxes.length cs = true)
    (hr : (execOp a.eval o).run P w = .ok (.value (.pointer (some ⟨w.heap.size, 0, none⟩))) (w.alloc (.cells arr t))) :
    OpOk P o a w B w0 M.boxes.length G (.ptr M.boxes.length 0) ⟨M.boxes ++ [cs], M.toks⟩ := by
  have hI1 := hI.of_below (w' := w.alloc (.cells arr t)) ((Below.refl _ _).alloc (Nat.le_refl _) _)
  obtain ⟨q1, q2, q3⟩ := hI1.addBox (blk := w.heap.size) (hI.fresh (Nat.le_refl _)) hI.hB (by simp) hb (fun j c hc => by
    have hj : j < arr.size := by rw [hV.1]; exact getElem?_lt hc
    refine ⟨arr.getD j undef, ?_, by simp, hV.2 j c hc⟩
    simp [hj])
  refine ⟨_, _, _, .inl hr, q2, q1, ?_, ?_, ?_⟩
  · have := V.ptr (G := G.addBox M.boxes.length w.heap.size) M.boxes.length 0
    rw [q3] at this; exact this
  · simp [bd]
  · simp

theorem ok_al {t : TypeId} {zs : List AV} (hI : Inv B w0 G M w) (ho : o.op = .alloc t) (hz : zeroT P t = some zs)
    {v : AV} {M' : Mem} {cl : FuncId → List AV → Mem → Option (AV × Mem)} (hev : (SOp.al zs).ev cl e M = some (v, M')) : OpOk P o a w B w0 M.boxes.length G v M' := by
  simp only [SOp.ev, Option.some.injEq, Prod.mk.injEq] at hev
  obtain ⟨rfl, rfl⟩ := hev
  unfold zeroT at hz
  split at hz
  · rename_i i hi
    split at hz
    · rename_i z hz'
      obtain ⟨h1, h2⟩ := toAVs_Vs hz G
      refine ok_new (arr := z.cells) (t := t) hI h1 (h2 _) ?_
      unfold execOp; rw [ho]
      simp [Instr.alloc, zeroValue, typeInfo, hi, hz', newVar, newRow]
    · cases hz
  · cases hz

theorem ok_bx {t : TypeId} {x : Operand} {sx : X} (hI : Inv B w0 G M w) (hE : VE G M.boxes.length e a) (ho : o.op = .box t x) (hx : slimX x = some sx)
    {v : AV} {M' : Mem} {cl : FuncId → List AV → Mem → Option (AV × Mem)} (hev : (SOp.bx sx).ev cl e M = some (v, M')) : OpOk P o a w B w0 M.boxes.length G v M' := by
  obtain ⟨x1, x2⟩ := slimX_V hE hx
  simp only [SOp.ev] at hev
  split at hev
  · rename_i hk
    simp only [Option.some.injEq, Prod.mk.injEq] at hev
    obtain ⟨rfl, rfl⟩ := hev
    obtain ⟨h1, h2⟩ := x1.cells hk
    refine ok_new (arr := (a.eval x).cells) (t := t) hI ⟨h1, h2⟩ (bdL_of (bd_cells x2)) ?_
    unfold execOp; rw [ho]
    simp [Instr.box, newVar, newRow]
  · cases hev

theorem ok_ld {t : TypeId} {x : Operand} {sx : X} {ag : Bool} {n : Nat} (hI : Inv B w0 G M w) (hE : VE G M.boxes.length e a) (ho : o.op = .load t x) (hx : slimX x = some sx)
    (hag : aggType P t = some ag) (hn : (ag = true ∧ sizeT P t = some n) ∨ (ag = false ∧ n = 1))
    {v : AV} {M' : Mem} {cl : FuncId → List AV → Mem → Option (AV × Mem)} (hev : (SOp.ld ag n sx).ev cl e M = some (v, M')) : OpOk P o a w B w0 M.boxes.length G v M' := by
  obtain ⟨x1, x2⟩ := slimX_V hE hx
  simp only [SOp.ev] at hev
  split at hev
  · rename_i b k hx'
    rw [hx'] at x1 x2
    split at hev
    · rename_i cs hb
      simp only [Option.map_eq_some_iff, Prod.mk.injEq] at hev
      obtain ⟨u, hcut, rfl, rfl⟩ := hev
      obtain ⟨vs, h1, h2, h3⟩ := hI.box_fun hb
      obtain ⟨y, q1, q2, q3⟩ := load_known (P := P) (w := w) hag hn (blk := G.ρ b) (off := 0) (fun j hj => by simpa using (h1 j hj).1) h2 hcut
      have hlt := getElem?_lt hb
      refine .same hI (x := y) ?_ q2 (q3 _ (bdL_le (by omega) _ h3))
      unfold execOp; rw [ho]
      simp only [x1.ptr_inv]
      simp only [Nat.zero_add] at q1
      simp [q1]
    · cases hev
  · rename_i cs hx'
    rw [hx'] at x1 x2
    simp only [Option.map_eq_some_iff, Prod.mk.injEq] at hev
    obtain ⟨u, hcut, rfl, rfl⟩ := hev
    obtain ⟨vs, blk, off, h0, h1, h2⟩ := x1.adr_inv
    obtain ⟨y, q1, q2, q3⟩ := load_known (P := P) (w := w) hag hn (blk := blk) (off := off) (fun j hj => hI.stab _ _ _ (h1 j hj)) h2 hcut
    refine .same hI (x := y) ?_ q2 (q3 _ (by simpa only [bd] using x2))
    unfold execOp; rw [ho]
    simp only [h0]
    simp only [Nat.add_zero] at q1
    simp [q1]
  · cases hev

theorem ok_nc {x : Operand} {sx : X} (hI : Inv B w0 G M w) (hE : VE G M.boxes.length e a) (ho : o.op = .nilCheck x) (hx : slimX x = some sx)
    {v : AV} {M' : Mem} {cl : FuncId → List AV → Mem → Option (AV × Mem)} (hev : (SOp.nc sx).ev cl e M = some (v, M')) : OpOk P o a w B w0 M.boxes.length G v M' := by
  obtain ⟨x1, x2⟩ := slimX_V hE hx
  simp only [SOp.ev] at hev
  split at hev
  · rename_i b k hx'
    simp only [Option.some.injEq, Prod.mk.injEq] at hev
    obtain ⟨rfl, rfl⟩ := hev
    rw [hx'] at x1 x2
    refine .same hI (x := a.eval x) ?_ x1 x2
    unfold execOp; rw [ho]; simp only [x1.ptr_inv]; rfl
  · rename_i cs hx'
    simp only [Option.some.injEq, Prod.mk.injEq] at hev
    obtain ⟨rfl, rfl⟩ := hev
    rw [hx'] at x1 x2
    obtain ⟨vs, blk, off, h0, h1, h2⟩ := x1.adr_inv
    refine .same hI (x := a.eval x) ?_ x1 x2
    unfold execOp; rw [ho]; simp only [h0]; rfl
  · rename_i f cs hx'
    simp only [Option.some.injEq, Prod.mk.injEq] at hev
    obtain ⟨rfl, rfl⟩ := hev
    rw [hx'] at x1 x2
    obtain ⟨arr, h0, h1, h2⟩ := x1.fn_inv
    refine .same hI (x := a.eval x) ?_ x1 x2
    unfold execOp; rw [ho]; simp only [h0]; rfl
  · cases hev

theorem ok_fa {t : TypeId} {x : Operand} {sx : X} {f n : Nat} {fs : Array Field} {fd : Field} (hI : Inv B w0 G M w) (hE : VE G M.boxes.length e a) (ho : o.op = .fieldAddr t x f) (hx : slimX x = some sx)
    (hu : P.underlying t = some (.struct fs)) (hf : fs[f]? = some fd) (hn : sizeT P fd.type = some n) (hn0 : 0 < n)
    {v : AV} {M' : Mem} {cl : FuncId → List AV → Mem → Option (AV × Mem)} (hev : (SOp.fa fd.offset sx).ev cl e M = some (v, M')) : OpOk P o a w B w0 M.boxes.length G v M' := by
  obtain ⟨x1, x2⟩ := slimX_V hE hx
  have hrun : ∀ blk off, a.eval x = .pointer (some ⟨blk, off, none⟩) → (execOp a.eval o).run P w = .ok (.value (.pointer (some ⟨blk, off + fd.offset, none⟩))) w := by
    intro blk off h0
    unfold execOp; rw [ho]
    simp only [h0]
    have : ¬ n = 0 := by omega
    simp [Instr.fieldAt, Instr.sureAddr, run_underlying hu, hf, fieldPlace, run_sizeOf hn, this, Addr.add_plain]
  simp only [SOp.ev] at hev
  split at hev
  · rename_i b k hx'
    simp only [Option.some.injEq, Prod.mk.injEq] at hev
    obtain ⟨rfl, rfl⟩ := hev
    rw [hx'] at x1 x2
    exact .same hI (hrun _ _ x1.ptr_inv) (.ptr b (k + fd.offset)) (by simpa only [bd] using x2)
  · rename_i cs hx'
    simp only [Option.some.injEq, Prod.mk.injEq] at hev
    obtain ⟨rfl, rfl⟩ := hev
    rw [hx'] at x1 x2
    obtain ⟨vs, blk, off, h0, h1, h2⟩ := x1.adr_inv
    refine .same hI (hrun _ _ h0) (.adr _ (fun j => vs (fd.offset + j)) blk (off + fd.offset) (fun j hj => ?_) (fun j c hc => ?_)) ?_
    · rw [Nat.add_assoc]; exact h1 _ (by simp at hj; omega)
    · rw [List.getElem?_drop] at hc; exact h2 _ _ hc
    · simp only [bd] at x2 ⊢
      exact bdL_of fun c hc => bdL_mem x2 c (List.mem_of_mem_drop hc)
  · cases hev

theorem part_known {t : TypeId} {ag : Bool} {n k : Nat} (hag : aggType P t = some ag) (hn : (ag = true ∧ sizeT P t = some n) ∨ (ag = false ∧ n = 1))
    {cs : List AV} {arr : Array Value} (hV : Vs G cs arr) {v : AV} (hcut : cut ag n k cs = some v) :
    ∃ x, (part t arr k).run P w = .ok x w ∧ V G v x ∧ ∀ m, bdL m cs = true → bd m v = true := by
  rcases hn with ⟨rfl, hsz⟩ | ⟨rfl, rfl⟩
  · obtain ⟨h1, rfl⟩ := cut_agg hcut
    refine ⟨.agg (arr.extract k (k + n)), by simp [part, run_isAgg hag, run_sizeOf hsz], .agg _ _ (by simp [hV.1]; omega) fun j c hc => ?_, fun m hm => bd_take hm⟩
    have hj : j < n := by have := getElem?_lt hc; simp at this; omega
    rw [List.getElem?_take, if_pos hj, List.getElem?_drop] at hc
    have := hV.2 (k + j) c hc
    have hlt : k + j < arr.size := by rw [hV.1]; exact getElem?_lt hc
    have hlt2 : j < min (k + n) arr.size - k := by omega
    simpa [Array.getD, hlt, hlt2] using this
  · have h1 := cut_one hcut
    have hlt : k < arr.size := by rw [hV.1]; exact getElem?_lt h1
    have h2 := hV.2 k v h1
    simp [Array.getD, hlt] at h2
    refine ⟨arr[k], ?_, h2, fun m hm => bdL_mem hm _ (getElem?_mem' h1)⟩
    simp [part, run_isAgg hag, hlt]

theorem ok_fld {t : TypeId} {x : Operand} {sx : X} {f n : Nat} {ag : Bool} {fs : Array Field} {fd : Field} (hI : Inv B w0 G M w) (hE : VE G M.boxes.length e a) (ho : o.op = .field t x f) (hx : slimX x = some sx)
    (hu : P.underlying t = some (.struct fs)) (hf : fs[f]? = some fd) (hag : aggType P fd.type = some ag) (hn : (ag = true ∧ sizeT P fd.type = some n) ∨ (ag = false ∧ n = 1))
    {v : AV} {M' : Mem} {cl : FuncId → List AV → Mem → Option (AV × Mem)} (hev : (SOp.fld ag n fd.offset sx).ev cl e M = some (v, M')) : OpOk P o a w B w0 M.boxes.length G v M' := by
  obtain ⟨x1, x2⟩ := slimX_V hE hx
  simp only [SOp.ev] at hev
  split at hev
  · rename_i cs hx'
    simp only [Option.map_eq_some_iff, Prod.mk.injEq] at hev
    obtain ⟨u, hcut, rfl, rfl⟩ := hev
    rw [hx'] at x1 x2
    obtain ⟨arr, h0, h1, h2⟩ := x1.agg_inv
    obtain ⟨y, q1, q2, q3⟩ := part_known (P := P) (w := w) hag hn ⟨h1, h2⟩ hcut
    refine .same hI (x := y) ?_ q2 (q3 _ (by simpa only [bd] using x2))
    unfold execOp; rw [ho]
    simp only [h0]
    simp [Instr.field, run_underlying hu, hf, asAgg, q1]
  · cases hev

theorem ok_ext {x : Operand} {sx : X} {i : Nat} (hI : Inv B w0 G M w) (hE : VE G M.boxes.length e a) (ho : o.op = .extract x i) (hx : slimX x = some sx)
    {v : AV} {M' : Mem} {cl : FuncId → List AV → Mem → Option (AV × Mem)} (hev : (SOp.ext i sx).ev cl e M = some (v, M')) : OpOk P o a w B w0 M.boxes.length G v M' := by
  obtain ⟨x1, x2⟩ := slimX_V hE hx
  simp only [SOp.ev] at hev
  split at hev
  · rename_i cs hx'
    simp only [Option.map_eq_some_iff, Prod.mk.injEq] at hev
    obtain ⟨u, hcut, rfl, rfl⟩ := hev
    rw [hx'] at x1 x2
    obtain ⟨arr, h0, h1, h2⟩ := x1.tup_inv
    have hlt : i < arr.size := by rw [h1]; exact getElem?_lt hcut
    have h3 := h2 _ _ hcut
    simp [Array.getD, hlt] at h3
    refine .same hI (x := arr[i]) ?_ h3 (bdL_mem (by simpa only [bd] using x2) _ (getElem?_mem' hcut))
    unfold execOp; rw [ho]
    simp only [h0]
    simp [Instr.extract, hlt]
  · cases hev

theorem ok_nt {x : Operand} {sx : X} {t : TypeId} (hI : Inv B w0 G M w) (hE : VE G M.boxes.length e a) (ho : o.op = .unOp .not t x) (hx : slimX x = some sx)
    {v : AV} {M' : Mem} {cl : FuncId → List AV → Mem → Option (AV × Mem)} (hev : (SOp.nt sx).ev cl e M = some (v, M')) : OpOk P o a w B w0 M.boxes.length G v M' := by
  obtain ⟨x1, x2⟩ := slimX_V hE hx
  simp only [SOp.ev] at hev
  split at hev
  · rename_i b hx'
    simp only [Option.some.injEq, Prod.mk.injEq] at hev
    obtain ⟨rfl, rfl⟩ := hev
    rw [hx'] at x1
    refine .same hI (x := .bool !b) ?_ (.bool _) rfl
    unfold execOp; rw [ho]; simp only [x1.bool_inv]; rfl
  · cases hev
theorem ok_ng {x : Operand} {sx : X} {t : TypeId} (hI : Inv B w0 G M w) (hE : VE G M.boxes.length e a) (ho : o.op = .unOp .neg t x) (hx : slimX x = some sx)
    {v : AV} {M' : Mem} {cl : FuncId → List AV → Mem → Option (AV × Mem)} (hev : (SOp.ng sx).ev cl e M = some (v, M')) : OpOk P o a w B w0 M.boxes.length G v M' := by
  obtain ⟨x1, x2⟩ := slimX_V hE hx
  simp only [SOp.ev] at hev
  split at hev
  · rename_i k n hx'
    simp only [Option.some.injEq, Prod.mk.injEq] at hev
    obtain ⟨rfl, rfl⟩ := hev
    rw [hx'] at x1
    refine .same hI (x := .int k (k.wrap (0 - n))) ?_ (.int _ _) rfl
    unfold execOp; rw [ho]; simp only [x1.int_inv]; rfl
  · cases hev

theorem ibin_run {op : BinOp} {k : IntKind} {p q : Int} {t : TypeId} {v : AV} (h : ibin op k p q = some v) (hsh : op ≠ .shl ∧ op ≠ .shr) :
    ∃ x, (binOp op t (.int k p) (.int k q)).run P w = .ok x w ∧ V G v x ∧ ∀ m, bd m v = true := by
  cases op with
  | add => obtain rfl := Option.some.inj h; exact ⟨_, by simp only [binOp, ne_eq, not_true_eq_false, if_false]; rfl, .int _ _, fun _ => rfl⟩
  | sub => obtain rfl := Option.some.inj h; exact ⟨_, by simp only [binOp, ne_eq, not_true_eq_false, if_false]; rfl, .int _ _, fun _ => rfl⟩
  | mul => obtain rfl := Option.some.inj h; exact ⟨_, by simp only [binOp, ne_eq, not_true_eq_false, if_false]; rfl, .int _ _, fun _ => rfl⟩
  | and => obtain rfl := Option.some.inj h; exact ⟨_, by simp only [binOp, ne_eq, not_true_eq_false, if_false]; rfl, .int _ _, fun _ => rfl⟩
  | or => obtain rfl := Option.some.inj h; exact ⟨_, by simp only [binOp, ne_eq, not_true_eq_false, if_false]; rfl, .int _ _, fun _ => rfl⟩
  | xor => obtain rfl := Option.some.inj h; exact ⟨_, by simp only [binOp, ne_eq, not_true_eq_false, if_false]; rfl, .int _ _, fun _ => rfl⟩
  | eql => obtain rfl := Option.some.inj h; exact ⟨_, by simp only [binOp, ne_eq, not_true_eq_false, if_false]; rfl, .bool _, fun _ => rfl⟩
  | neq => obtain rfl := Option.some.inj h; exact ⟨_, by simp only [binOp, ne_eq, not_true_eq_false, if_false]; rfl, .bool _, fun _ => rfl⟩
  | lss => obtain rfl := Option.some.inj h; exact ⟨_, by simp only [binOp, ne_eq, not_true_eq_false, if_false]; rfl, .bool _, fun _ => rfl⟩
  | leq => obtain rfl := Option.some.inj h; exact ⟨_, by simp only [binOp, ne_eq, not_true_eq_false, if_false]; rfl, .bool _, fun _ => rfl⟩
  | gtr => obtain rfl := Option.some.inj h; exact ⟨_, by simp only [binOp, ne_eq, not_true_eq_false, if_false]; rfl, .bool _, fun _ => rfl⟩
  | geq => obtain rfl := Option.some.inj h; exact ⟨_, by simp only [binOp, ne_eq, not_true_eq_false, if_false]; rfl, .bool _, fun _ => rfl⟩
  | quo =>
    simp only [ibin] at h
    split at h
    · cases h
    · rename_i hq
      obtain rfl := Option.some.inj h
      exact ⟨.int k (k.wrap (p.tdiv q)), by simp [binOp, Op.intDiv, hq], .int _ _, fun _ => rfl⟩
  | rem =>
    simp only [ibin] at h
    split at h
    · cases h
    · rename_i hq
      obtain rfl := Option.some.inj h
      exact ⟨.int k (p.tmod q), by simp [binOp, Op.intDiv, hq], .int _ _, fun _ => rfl⟩
  | _ => cases h

theorem abin_run {op : BinOp} {p q : AV} {x y : Value} {t : TypeId} {v : AV} (h : abin op p q = some v) (hp : V G p x) (hq : V G q y) :
    ∃ z, (binOp op t x y).run P w = .ok z w ∧ V G v z ∧ ∀ m, bd m v = true := by
  unfold abin at h
  split at h
  · rename_i k a1 k' b1
    obtain rfl := hp.int_inv
    obtain rfl := hq.int_inv
    split at h
    · split at h
      · cases h
      · rename_i hb
        obtain rfl := Option.some.inj h
        exact ⟨.int k (k.wrap (a1 * 2 ^ (min b1.toNat k.bits))), by simp [binOp, Op.shift, hb], .int _ _, fun _ => rfl⟩
    · split at h
      · cases h
      · rename_i hb
        obtain rfl := Option.some.inj h
        exact ⟨.int k (a1.fdiv (2 ^ (min b1.toNat k.bits))), by simp [binOp, Op.shift, hb], .int _ _, fun _ => rfl⟩
    · split at h
      · rename_i h1 h2 hk
        subst hk
        exact ibin_run h ⟨h1, h2⟩
      · cases h
  · rename_i s1 s2
    obtain rfl := hp.str_inv
    obtain rfl := hq.str_inv
    unfold sbin at h
    split at h
    · split at h
      · rename_i hlt
        obtain rfl := Option.some.inj h
        refine ⟨.string (s1 ++ s2), ?_, .str _, fun _ => rfl⟩
        have : ¬ (IntKind.i64.max < ((s1.size + s2.size : Nat) : Int)) := by
          have hm : IntKind.i64.max = 9223372036854775807 := by decide
          rw [hm]; omega
        simp only [binOp, Op.stringOp, gt_iff_lt]
        rw [if_neg this]; rfl
      · cases h
    · obtain rfl := Option.some.inj h
      exact ⟨.bool (s1.toList == s2.toList), by simp [binOp, Op.stringOp], .bool _, fun _ => rfl⟩
    · obtain rfl := Option.some.inj h
      exact ⟨.bool !(s1.toList == s2.toList), by simp [binOp, Op.stringOp], .bool _, fun _ => rfl⟩
    · cases h
  · cases h

theorem eqGuard_scalar {op : BinOp} {t : TypeId} {x y : Operand} {p q : AV} {u v : Value} (hp : V G p u) (hq : V G q v) (h1 : (∃ k n, p = .int k n) ∨ (∃ b, p = .bool b) ∨ ∃ s, p = .str s) :
    (eqGuard op t x y u v).run P w = .ok () w := by
  rcases h1 with ⟨k, n, rfl⟩ | ⟨b, rfl⟩ | ⟨s, rfl⟩
  · obtain rfl := hp.int_inv; unfold eqGuard; cases op <;> rfl
  · obtain rfl := hp.bool_inv; unfold eqGuard; cases op <;> rfl
  · obtain rfl := hp.str_inv; unfold eqGuard; cases op <;> rfl

theorem abin_scalar {op : BinOp} {p q v : AV} (h : abin op p q = some v) : (∃ k n, p = .int k n) ∨ (∃ b, p = .bool b) ∨ ∃ s, p = .str s := by
  unfold abin at h
  split at h
  · exact .inl ⟨_, _, rfl⟩
  · exact .inr (.inr ⟨_, rfl⟩)
  · cases h

theorem ok_bin {op : BinOp} {x y : Operand} {sx sy : X} {t u : TypeId} (hI : Inv B w0 G M w) (hE : VE G M.boxes.length e a) (ho : o.op = .binOp op t x y u) (hx : slimX x = some sx) (hy : slimX y = some sy)
    {v : AV} {M' : Mem} {cl : FuncId → List AV → Mem → Option (AV × Mem)} (hev : (SOp.bin op sx sy).ev cl e M = some (v, M')) : OpOk P o a w B w0 M.boxes.length G v M' := by
  obtain ⟨x1, x2⟩ := slimX_V hE hx
  obtain ⟨y1, y2⟩ := slimX_V hE hy
  simp only [SOp.ev, Option.map_eq_some_iff, Prod.mk.injEq] at hev
  obtain ⟨r, hr, rfl, rfl⟩ := hev
  obtain ⟨z, q1, q2, q3⟩ := abin_run (P := P) (w := w) (t := t) hr x1 y1
  refine .same hI (x := z) ?_ q2 (q3 _)
  unfold execOp; rw [ho]
  simp [eqGuard_scalar (P := P) (w := w) (op := op) (t := t) (x := x) (y := y) x1 y1 (abin_scalar hr), q1]

theorem ok_beq {ne : Bool} {x y : Operand} {sx sy : X} {t u : TypeId} (hI : Inv B w0 G M w) (hE : VE G M.boxes.length e a) (ho : o.op = .binOp (if ne then .neq else .eql) t x y u) (hx : slimX x = some sx) (hy : slimX y = some sy)
    (hu : P.underlying t = some .bool)
    {v : AV} {M' : Mem} {cl : FuncId → List AV → Mem → Option (AV × Mem)} (hev : (SOp.beq ne sx sy).ev cl e M = some (v, M')) : OpOk P o a w B w0 M.boxes.length G v M' := by
  obtain ⟨x1, x2⟩ := slimX_V hE hx
  obtain ⟨y1, y2⟩ := slimX_V hE hy
  simp only [SOp.ev] at hev
  split at hev
  · rename_i b c hb hc
    simp only [Option.some.injEq, Prod.mk.injEq] at hev
    obtain ⟨rfl, rfl⟩ := hev
    rw [hb] at x1
    rw [hc] at y1
    have hg : ∀ op, (eqGuard op t x y (a.eval x) (a.eval y)).run P w = .ok () w := fun op => eqGuard_scalar (G := G) x1 y1 (.inr (.inl ⟨_, rfl⟩))
    have hxv := x1.bool_inv
    have hyv := y1.bool_inv
    refine .same hI (x := .bool (ne ^^ (b == c))) ?_ (.bool _) rfl
    unfold execOp; rw [ho]
    cases ne
    · have := hg .eql; rw [hxv, hyv] at this
      simp [hxv, hyv, this, run_eql_bool w t b c hu]
    · have := hg .neq; rw [hxv, hyv] at this
      simp [hxv, hyv, this, run_neq_bool w t b c hu]
  · cases hev

theorem ok_cv {x : Operand} {sx : X} {s d : TypeId} {k' k : IntKind} (hI : Inv B w0 G M w) (hE : VE G M.boxes.length e a) (ho : o.op = .convert s d x) (hx : slimX x = some sx)
    (hs : P.underlying s = some (.int k')) (hd : P.underlying d = some (.int k))
    {v : AV} {M' : Mem} {cl : FuncId → List AV → Mem → Option (AV × Mem)} (hev : (SOp.cv k sx).ev cl e M = some (v, M')) : OpOk P o a w B w0 M.boxes.length G v M' := by
  obtain ⟨x1, x2⟩ := slimX_V hE hx
  simp only [SOp.ev] at hev
  split at hev
  · rename_i k1 n hx'
    simp only [Option.some.injEq, Prod.mk.injEq] at hev
    obtain ⟨rfl, rfl⟩ := hev
    rw [hx'] at x1
    refine .same hI (x := .int k (k.wrap n)) ?_ (.int _ _) rfl
    unfold execOp; rw [ho]; simp only [x1.int_inv]
    simp [convert, run_underlying hs, run_underlying hd, Conv.intToInt]
  · cases hev

end
end Go.AM

namespace Go.AM
open AV Go.RowKit

section
variable {P : Program} {B : Nat} {w0 : World} {G : Gh} {M : Mem} {w : World} {a : Act} {e : Env} {o : Oper}

theorem ok_mf {f : FuncId} {cs : Array Operand} {xs : List X} {first : Array Operand} (hI : Inv B w0 G M w) (hE : VE G M.boxes.length e a) (ho : o.op = .makeFunc (.func f) first cs) (hf : first.isEmpty = true) (hx : slimXs cs.toList = some xs)
    {v : AV} {M' : Mem} {cl : FuncId → List AV → Mem → Option (AV × Mem)} (hev : (SOp.mf f xs).ev cl e M = some (v, M')) : OpOk P o a w B w0 M.boxes.length G v M' := by
  simp only [SOp.ev, Option.some.injEq, Prod.mk.injEq] at hev
  obtain ⟨rfl, rfl⟩ := hev
  obtain ⟨⟨h1, h2⟩, h3⟩ := slimXs_Vs hE hx
  have hf' : first = #[] := by simpa using hf
  subst hf'
  refine .same hI (x := .func (.func f) #[] (cs.map a.eval)) ?_ (.fn f _ _ h1 h2) (by simpa only [bd] using h3)
  unfold execOp; rw [ho]; simp [Instr.makeFunc]

/-- One argument. -/
theorem one_arg {c : Call} {sx : X} (hE : VE G M.boxes.length e a) (ha : slimXs c.args.toList = some [sx]) : ∃ y, c.args.map a.eval = #[y] ∧ V G (sx.ev e) y ∧ bd M.boxes.length (sx.ev e) = true := by
  obtain ⟨⟨h1, h2⟩, h3⟩ := slimXs_Vs hE ha
  have hs : (c.args.map a.eval).size = 1 := by rw [h1]; rfl
  refine ⟨(c.args.map a.eval)[0], ?_, ?_, by simpa [evL, bdL] using h3⟩
  · apply Array.ext (by simpa using hs)
    intro i hi1 hi2
    simp at hi2
    subst hi2
    simp
  · have := h2 0 _ (by simp only [evL]; rfl)
    simpa [Array.getD, hs] using this
theorem two_args {c : Call} {sx sy : X} (hE : VE G M.boxes.length e a) (ha : slimXs c.args.toList = some [sx, sy]) :
    ∃ y z, c.args.map a.eval = #[y, z] ∧ V G (sx.ev e) y ∧ V G (sy.ev e) z ∧ bd M.boxes.length (sx.ev e) = true ∧ bd M.boxes.length (sy.ev e) = true := by
  obtain ⟨⟨h1, h2⟩, h3⟩ := slimXs_Vs hE ha
  have hs : (c.args.map a.eval).size = 2 := by rw [h1]; rfl
  simp only [evL, bdL, Bool.and_eq_true] at h3
  refine ⟨(c.args.map a.eval)[0], (c.args.map a.eval)[1], ?_, ?_, ?_, h3.1, h3.2.1⟩
  · apply Array.ext (by simpa using hs)
    intro i hi1 hi2
    simp at hi2
    match i, hi2 with
    | 0, _ => simp
    | 1, _ => simp
  · have := h2 0 _ (by simp only [evL]; rfl)
    simpa [Array.getD, hs] using this
  · have := h2 1 _ (by simp only [evL]; rfl)
    simpa [Array.getD, hs] using this

theorem ok_mn {sx sy : X} {c : Call} (hI : Inv B w0 G M w) (hE : VE G M.boxes.length e a) (ho : o.op = .call c) (hc : c.callee = .builtin .min) (ha : slimXs c.args.toList = some [sx, sy])
    {v : AV} {M' : Mem} {cl : FuncId → List AV → Mem → Option (AV × Mem)} (hev : (SOp.mn sx sy).ev cl e M = some (v, M')) : OpOk P o a w B w0 M.boxes.length G v M' := by
  obtain ⟨y, z, h1, h2, h3, -⟩ := two_args hE ha
  simp only [SOp.ev] at hev
  split at hev
  · rename_i k p k' q hp hq
    split at hev
    · rename_i hk
      subst hk
      simp only [Option.some.injEq, Prod.mk.injEq] at hev
      obtain ⟨rfl, rfl⟩ := hev
      rw [hp] at h2
      rw [hq] at h3
      obtain rfl := h2.int_inv
      obtain rfl := h3.int_inv
      refine .same hI (x := .int k (if q < p then q else p)) ?_ (.int _ _) rfl
      unfold execOp; rw [ho]
      simp [resolve, hc, h1, invoke, builtin, Builtin.min_, Builtin.min2]
    · cases hev
  · cases hev
theorem ok_mx {sx sy : X} {c : Call} (hI : Inv B w0 G M w) (hE : VE G M.boxes.length e a) (ho : o.op = .call c) (hc : c.callee = .builtin .max) (ha : slimXs c.args.toList = some [sx, sy])
    {v : AV} {M' : Mem} {cl : FuncId → List AV → Mem → Option (AV × Mem)} (hev : (SOp.mx sx sy).ev cl e M = some (v, M')) : OpOk P o a w B w0 M.boxes.length G v M' := by
  obtain ⟨y, z, h1, h2, h3, -⟩ := two_args hE ha
  simp only [SOp.ev] at hev
  split at hev
  · rename_i k p k' q hp hq
    split at hev
    · rename_i hk
      subst hk
      simp only [Option.some.injEq, Prod.mk.injEq] at hev
      obtain ⟨rfl, rfl⟩ := hev
      rw [hp] at h2
      rw [hq] at h3
      obtain rfl := h2.int_inv
      obtain rfl := h3.int_inv
      refine .same hI (x := .int k (if q > p then q else p)) ?_ (.int _ _) rfl
      unfold execOp; rw [ho]
      simp [resolve, hc, h1, invoke, builtin, Builtin.max_, Builtin.max2]
    · cases hev
  · cases hev

theorem V.sl_inv {t : Tok} {xs : List AV} {v : Value} (h : V G (.sl t xs) v) : ∃ (b : Option Addr) (cap sz blk off : Nat) (vs : Nat → Value), v = .slice b xs.length cap ∧ xs.length ≤ cap ∧
    (∀ e, e ∈ xs → e.known = true ∧ e.cells.length = sz) ∧ (xs ≠ [] → b = some ⟨blk, off, none⟩) ∧ (∀ j, j < (flat xs).length → G.σ blk (off + j) = some (vs j)) ∧
    (∀ j c, (flat xs)[j]? = some c → V G c (vs j)) ∧ (t = .nl → cap = 0) ∧ (∀ i, t = .ow i → b = some ⟨blk, 0, none⟩ ∧ off = 0 ∧ ∃ c, G.τ i xs.length = some (blk, c, sz) ∧ ∀ k, c = some k → k = cap) := by
  cases h with
  | sl t xs b len cap sz blk off vs h1 h2 h3 h4 h5 h6 h7 h8 => subst h1; exact ⟨b, cap, sz, blk, off, vs, rfl, h2, h3, h4, h5, h6, h7, h8⟩

theorem ok_len {sx : X} {c : Call} {t e' : TypeId} (hI : Inv B w0 G M w) (hE : VE G M.boxes.length e a) (ho : o.op = .call c) (hc : c.callee = .builtin .len) (ht : c.argTypes[0]? = some t) (hu : P.underlying t = some (.slice e')) (ha : slimXs c.args.toList = some [sx])
    {v : AV} {M' : Mem} {cl : FuncId → List AV → Mem → Option (AV × Mem)} (hev : (SOp.len sx).ev cl e M = some (v, M')) : OpOk P o a w B w0 M.boxes.length G v M' := by
  obtain ⟨y, h1, h2, h3⟩ := one_arg hE ha
  simp only [SOp.ev] at hev
  split at hev
  · rename_i tk xs hx
    simp only [Option.some.injEq, Prod.mk.injEq] at hev
    obtain ⟨rfl, rfl⟩ := hev
    rw [hx] at h2
    obtain ⟨b, cap, sz, blk, off, vs, rfl, -⟩ := h2.sl_inv
    refine .same hI (x := .int .i64 xs.length) ?_ (.int _ _) rfl
    unfold execOp; rw [ho]
    simp [resolve, hc, h1, invoke, builtin, Builtin.len_, ht, run_underlying hu, goInt]
  · rename_i b k n sz ag hx
    simp only [Option.some.injEq, Prod.mk.injEq] at hev
    obtain ⟨rfl, rfl⟩ := hev
    rw [hx] at h2
    obtain ⟨b, cap, rfl, -⟩ := h2.bsl_inv
    refine .same hI (x := .int .i64 n) ?_ (.int _ _) rfl
    unfold execOp; rw [ho]
    simp [resolve, hc, h1, invoke, builtin, Builtin.len_, ht, run_underlying hu, goInt]
  · cases hev
theorem ok_lenS {sx : X} {c : Call} {t : TypeId} (hI : Inv B w0 G M w) (hE : VE G M.boxes.length e a) (ho : o.op = .call c) (hc : c.callee = .builtin .len) (ht : c.argTypes[0]? = some t) (hu : P.underlying t = some .string) (ha : slimXs c.args.toList = some [sx])
    {v : AV} {M' : Mem} {cl : FuncId → List AV → Mem → Option (AV × Mem)} (hev : (SOp.lenS sx).ev cl e M = some (v, M')) : OpOk P o a w B w0 M.boxes.length G v M' := by
  obtain ⟨y, h1, h2, h3⟩ := one_arg hE ha
  simp only [SOp.ev] at hev
  split at hev
  · rename_i s hx
    simp only [Option.some.injEq, Prod.mk.injEq] at hev
    obtain ⟨rfl, rfl⟩ := hev
    rw [hx] at h2
    obtain rfl := h2.str_inv
    refine .same hI (x := .int .i64 s.size) ?_ (.int _ _) rfl
    unfold execOp; rw [ho]
    simp [resolve, hc, h1, invoke, builtin, Builtin.len_, ht, run_underlying hu, goInt]
  · cases hev

theorem ok_ixS {x i : Operand} {sx si : X} {t : TypeId} (hI : Inv B w0 G M w) (hE : VE G M.boxes.length e a) (ho : o.op = .index t x i) (hx : slimX x = some sx) (hi : slimX i = some si) (hu : P.underlying t = some .string)
    {v : AV} {M' : Mem} {cl : FuncId → List AV → Mem → Option (AV × Mem)} (hev : (SOp.ixS sx si).ev cl e M = some (v, M')) : OpOk P o a w B w0 M.boxes.length G v M' := by
  obtain ⟨x1, x2⟩ := slimX_V hE hx
  obtain ⟨i1, i2⟩ := slimX_V hE hi
  simp only [SOp.ev] at hev
  split at hev
  · rename_i s k n hs hn
    split at hev
    · rename_i h0
      split at hev
      · rename_i b hb
        simp only [Option.some.injEq, Prod.mk.injEq] at hev
        obtain ⟨rfl, rfl⟩ := hev
        rw [hs] at x1
        rw [hn] at i1
        refine .same hI (x := .int .u8 b.toNat) ?_ (.int _ _) rfl
        unfold execOp; rw [ho]; simp only [x1.str_inv, i1.int_inv]
        simp [Instr.index, asIntOf, run_underlying hu, h0, hb]
      · cases hev
    · cases hev
  · cases hev

theorem loBound_run {isS : Bool} {len cap : Nat} {lo hi : Option Operand} {slo shi : Option X} (hE : VE G M.boxes.length e a) (hlo : slimO lo = some slo) (hhi : slimO hi = some shi) (hcap : len ≤ cap) {r : Nat × Nat}
    (hb : bounds len (slo.map (·.ev e)) (shi.map (·.ev e)) = some r) :
    (Instr.sliceBounds isS len cap (lo.map a.eval) (hi.map a.eval) none).run P w = .ok (r.1, r.2, cap) w ∧ r.1 ≤ r.2 ∧ r.2 ≤ len := by
  unfold bounds at hb
  split at hb
  · rename_i l h hl hh
    split at hb
    · rename_i hc
      obtain rfl := Option.some.inj hb
      have hlv : (lo = none ∧ l = 0) ∨ ∃ x k, lo = some x ∧ a.eval x = .int k l := by
        cases lo with
        | none => cases hlo; simp [loBound] at hl; exact .inl ⟨rfl, hl.symm⟩
        | some x =>
          simp only [slimO, Option.map_eq_some_iff] at hlo
          obtain ⟨sx, hsx, rfl⟩ := hlo
          obtain ⟨q1, q2⟩ := slimX_V hE hsx
          simp only [Option.map_some] at hl
          cases hz : sx.ev e with
          | int k n => rw [hz] at hl q1; simp [loBound] at hl; subst hl; exact .inr ⟨x, k, rfl, q1.int_inv⟩
          | _ => rw [hz] at hl; simp [loBound] at hl
      have hhv : (hi = none ∧ h = len) ∨ ∃ x k, hi = some x ∧ a.eval x = .int k h := by
        cases hi with
        | none => cases hhi; simp [hiBound] at hh; exact .inl ⟨rfl, hh.symm⟩
        | some x =>
          simp only [slimO, Option.map_eq_some_iff] at hhi
          obtain ⟨sx, hsx, rfl⟩ := hhi
          obtain ⟨q1, q2⟩ := slimX_V hE hsx
          simp only [Option.map_some] at hh
          cases hz : sx.ev e with
          | int k n => rw [hz] at hh q1; simp [hiBound] at hh; subst hh; exact .inr ⟨x, k, rfl, q1.int_inv⟩
          | _ => rw [hz] at hh; simp [hiBound] at hh
      obtain ⟨l0, lh, hlen⟩ := hc
      have hlh : l.toNat ≤ h.toNat := by omega
      refine ⟨?_, by simpa using hlh, by simp; omega⟩
      have b1 : 0 ≤ h ∧ h ≤ (cap : Int) := ⟨by omega, by omega⟩
      have b2 : 0 ≤ l ∧ l ≤ (h.toNat : Int) := ⟨l0, by omega⟩
      rcases hlv with ⟨rfl, rfl⟩ | ⟨x, k, rfl, hx⟩ <;> rcases hhv with ⟨rfl, rfl⟩ | ⟨y, k', rfl, hy⟩
      · simp [Instr.sliceBounds]
      · simp only [Instr.sliceBounds, Option.map_some, Option.map_none, hy]
        simp [Instr.sliceBound, asIntOf, b1]
      · simp only [Instr.sliceBounds, Option.map_some, Option.map_none, hx]
        have b2' : l ≤ (len : Int) := by omega
        simp [Instr.sliceBound, asIntOf, l0, b2']
      · simp only [Instr.sliceBounds, Option.map_some, hx, hy]
        have b2' : l ≤ h := by omega
        have e1 : (0 : Int) ≤ h := b1.1
        simp only [Instr.sliceBound, asIntOf, Sem.run_bind, Sem.run_pure, Result.andThen_ok, Sem.run_ite, b1, and_self, if_true, Option.isSome_none, Bool.false_eq_true, if_false, b2]
    · cases hb
  · cases hb

theorem ok_sls {x : Operand} {lo hi : Option Operand} {sx : X} {slo shi : Option X} {t : TypeId} (hI : Inv B w0 G M w) (hE : VE G M.boxes.length e a) (ho : o.op = .slice t x lo hi none) (hx : slimX x = some sx) (hlo : slimO lo = some slo) (hhi : slimO hi = some shi)
    (hu : P.underlying t = some .string)
    {v : AV} {M' : Mem} {cl : FuncId → List AV → Mem → Option (AV × Mem)} (hev : (SOp.sls sx slo shi).ev cl e M = some (v, M')) : OpOk P o a w B w0 M.boxes.length G v M' := by
  obtain ⟨x1, x2⟩ := slimX_V hE hx
  simp only [SOp.ev] at hev
  split at hev
  · rename_i s hs
    simp only [Option.map_eq_some_iff, Prod.mk.injEq] at hev
    obtain ⟨r, hr, rfl, rfl⟩ := hev
    rw [hs] at x1
    obtain ⟨q1, q2, q3⟩ := loBound_run (P := P) (w := w) (isS := false) hE hlo hhi (Nat.le_refl _) hr
    refine .same hI (x := .string (s.extract r.1 r.2)) ?_ (.str _) rfl
    unfold execOp; rw [ho]; simp only [x1.str_inv]
    simp [Instr.sliceAt, Instr.slice, run_underlying hu, q1]
  · cases hev

theorem flat_drop {sz : Nat} : ∀ {xs : List AV} (l : Nat), (∀ e ∈ xs, e.cells.length = sz) → flat (xs.drop l) = (flat xs).drop (l * sz)
  | xs, 0, _ => by simp
  | [], l + 1, _ => by simp [flat]
  | x :: r, l + 1, h => by
    have h1 : x.cells.length = sz := h x (List.mem_cons_self ..)
    have ih := flat_drop (xs := r) l (fun e he => h e (List.mem_cons_of_mem _ he))
    rw [List.drop_succ_cons, ih]
    show (flat r).drop (l * sz) = (x.cells ++ flat r).drop ((l + 1) * sz)
    rw [Nat.add_mul, Nat.one_mul, Nat.add_comm, ← List.drop_drop, List.drop_append_of_le_length (by omega), ← h1, List.drop_length, List.nil_append, h1]

theorem flat_len {sz : Nat} : ∀ {xs : List AV}, (∀ e ∈ xs, e.cells.length = sz) → (flat xs).length = xs.length * sz
  | [], _ => by simp [flat]
  | x :: r, h => by
    have h1 : x.cells.length = sz := h x (List.mem_cons_self ..)
    have ih := flat_len (xs := r) (fun e he => h e (List.mem_cons_of_mem _ he))
    show (x.cells ++ flat r).length = _
    rw [List.length_append, ih, h1, List.length_cons, Nat.add_mul, Nat.one_mul, Nat.add_comm]

theorem flat_append (xs ys : List AV) : flat (xs ++ ys) = flat xs ++ flat ys := by simp [flat]

theorem flat_take_get {xs : List AV} {m j : Nat} {c : AV} (h : (flat (xs.take m))[j]? = some c) : (flat xs)[j]? = some c := by
  have : flat xs = flat (xs.take m) ++ flat (xs.drop m) := by rw [← flat_append, List.take_append_drop]
  rw [this, List.getElem?_append_left (getElem?_lt h)]; exact h

theorem flat_get {sz : Nat} {xs : List AV} (h : ∀ e ∈ xs, e.cells.length = sz) {i : Nat} {x : AV} (hx : xs[i]? = some x) {j : Nat} {c : AV} (hc : x.cells[j]? = some c) : (flat xs)[i * sz + j]? = some c := by
  have h1 := flat_drop (sz := sz) (xs := xs) i h
  have h2 : xs.drop i = x :: xs.drop (i + 1) := by
    have hi := getElem?_lt hx
    rw [List.drop_eq_getElem_cons hi]
    congr 1
    rw [List.getElem?_eq_getElem hi] at hx; exact Option.some.inj hx
  rw [← List.getElem?_drop, ← h1, h2]
  show (x.cells ++ flat (xs.drop (i + 1)))[j]? = some c
  rw [List.getElem?_append_left (getElem?_lt hc)]; exact hc

theorem ok_slc {x : Operand} {lo hi : Option Operand} {sx : X} {slo shi : Option X} {t e' : TypeId} {n : Nat} (hI : Inv B w0 G M w) (hE : VE G M.boxes.length e a) (ho : o.op = .slice t x lo hi none) (hx : slimX x = some sx) (hlo : slimO lo = some slo) (hhi : slimO hi = some shi)
    (hu : P.underlying t = some (.slice e')) (hi' : sizeT P e' = some n)
    {v : AV} {M' : Mem} {cl : FuncId → List AV → Mem → Option (AV × Mem)} (hev : (SOp.slc n sx slo shi).ev cl e M = some (v, M')) : OpOk P o a w B w0 M.boxes.length G v M' := by
  obtain ⟨x1, x2⟩ := slimX_V hE hx
  simp only [SOp.ev] at hev
  split at hev
  · rename_i tk xs hs
    split at hev
    rotate_left
    · cases hev
    rename_i hhd
    simp only [Option.map_eq_some_iff, Prod.mk.injEq] at hev
    obtain ⟨r, hr, rfl, rfl⟩ := hev
    rw [hs] at x1 x2
    obtain ⟨b, cap, sz, blk, off, vs, h0, h1, h2, h3, h4, h5, -⟩ := x1.sl_inv
    obtain ⟨q1, q2, q3⟩ := loBound_run (P := P) (w := w) (isS := true) hE hlo hhi h1 hr
    have hrun : (execOp a.eval o).run P w = .ok (.value (.slice (if cap = r.1 then b else b.map (·.add (r.1 * n))) (r.2 - r.1) (cap - r.1))) w := by
      unfold execOp; rw [ho]; simp only [h0]
      simp [Instr.sliceAt, Instr.slice, run_underlying hu, q1, run_sizeOf hi']
    refine .same hI hrun ?_ ?_
    · refine .sl .sh ((xs.drop r.1).take (r.2 - r.1)) _ _ _ sz blk (off + r.1 * sz) (fun j => vs (r.1 * sz + j)) (by simp; omega) (by simp; omega) ?_ ?_ ?_ ?_ (fun h => by cases h) (fun i h => by cases h)
      · intro y hy; exact h2 y (List.mem_of_mem_drop (List.mem_of_mem_take hy))
      · intro hne
        have hxne : xs ≠ [] := fun h => hne (by rw [h]; simp)
        have hlt : r.1 < r.2 := by
          rcases Nat.lt_or_ge r.1 r.2 with h | h
          · exact h
          · exact absurd (by rw [show r.2 - r.1 = 0 by omega]; rfl) hne
        have hisz : n = sz := by
          cases xs with
          | nil => exact absurd rfl hxne
          | cons y l =>
            have := (h2 y (List.mem_cons_self ..)).2
            simp [hdOk] at hhd
            omega
        rw [if_neg (by omega), h3 hxne]
        simp [Addr.add_plain, hisz]
      · intro j hj
        have hj' : j < ((flat xs).drop (r.1 * sz)).length := by
          rw [← flat_drop r.1 (fun y hy => (h2 y hy).2)]
          obtain ⟨c, hc⟩ : ∃ c, (flat ((xs.drop r.1).take (r.2 - r.1)))[j]? = some c := ⟨_, List.getElem?_eq_getElem hj⟩
          exact getElem?_lt (flat_take_get hc)
        rw [Nat.add_assoc]
        exact h4 _ (by simp at hj'; omega)
      · intro j c hc
        have := flat_take_get hc
        rw [flat_drop r.1 (fun y hy => (h2 y hy).2), List.getElem?_drop] at this
        exact h5 _ _ this
    · simp only [bd] at x2 ⊢
      exact bdL_of fun c hc => bdL_mem x2 c (List.mem_of_mem_drop (List.mem_of_mem_take hc))
  · rename_i b k n' sz' ag hs
    split at hev
    rotate_left
    · cases hev
    rename_i hsz
    subst hsz
    simp only [Option.map_eq_some_iff, Prod.mk.injEq] at hev
    obtain ⟨r, hr, rfl, rfl⟩ := hev
    rw [hs] at x1 x2
    obtain ⟨b', cap, h0, h1, h2⟩ := x1.bsl_inv
    obtain ⟨q1, q2, q3⟩ := loBound_run (P := P) (w := w) (isS := true) hE hlo hhi h1 hr
    have hrun : (execOp a.eval o).run P w = .ok (.value (.slice (if cap = r.1 then b' else b'.map (·.add (r.1 * n))) (r.2 - r.1) (cap - r.1))) w := by
      unfold execOp; rw [ho]; simp only [h0]
      simp [Instr.sliceAt, Instr.slice, run_underlying hu, q1, run_sizeOf hi']
    refine .same hI hrun (.bsl _ _ _ _ _ _ _ (by omega) fun h => ?_) x2
    rw [if_neg (by omega), h2 (by omega)]
    simp [Addr.add_plain]
  · cases hev
end
end Go.AM
