/- An abstract machine on trees: values without addresses, boxes for variables, tokens for slices that may be appended to. Plain definitions; nothing of a program. How a value of the tree machine stands for a value of the model: ghost maps, the relation V, and its plain laws. The invariant that ties the tree machine's memory to the model's world, and how it is carried: a new block, a new box, a new array, a store into a box, an array that grows. -/
import Derived.Orders
import Derived.Below
import Derived.Laws.IdiomCopy
set_option linter.unusedSimpArgs false
set_option linter.unusedVariables false
set_option linter.unnecessarySimpa false
namespace Go.AM

inductive Tok where
  | sh
  | nl
  | ow (t : Nat)

inductive AV where
  | int (k : IntKind) (n : Int)
  | bool (b : Bool)
  | str (s : ByteArray)
  | nil
  | ptr (b o : Nat)
  | adr (cs : List AV)
  | sl (t : Tok) (xs : List AV)
  | agg (cs : List AV)
  | tup (vs : List AV)
  | fn (f : FuncId) (cs : List AV)
  | bsl (b o n sz : Nat) (ag : Bool)
  | und
  | any

namespace AV
def cells : AV → List AV
  | .agg cs => cs
  | v => [v]
def known : AV → Bool
  | .any | .und => false
  | _ => true
def isAgg : AV → Bool
  | .agg _ => true
  | _ => false
def one : AV → Bool
  | .any | .und | .agg _ | .tup _ => false
  | _ => true
mutual
/-- All boxes that it names are below n. -/
def bd (n : Nat) : AV → Bool
  | .ptr b _ => decide (b < n)
  | .adr cs => bdL n cs
  | .sl _ cs => bdL n cs
  | .agg cs => bdL n cs
  | .tup cs => bdL n cs
  | .fn _ cs => bdL n cs
  | .bsl b _ _ _ _ => decide (b < n)
  | _ => true
def bdL (n : Nat) : List AV → Bool
  | [] => true
  | c :: r => bd n c && bdL n r
end
mutual
/-- No pointer in it at all. -/
def dat : AV → Bool
  | .ptr _ _ => false
  | .adr _ => false
  | .sl _ cs => datL cs
  | .agg cs => datL cs
  | .tup cs => datL cs
  | .fn _ _ => false
  | .bsl _ _ _ _ _ => false
  | .und => false
  | .any => false
  | _ => true
def datL : List AV → Bool
  | [] => true
  | c :: r => dat c && datL r
end
mutual
/-- Its tokens struck. -/
def er : AV → AV
  | .adr cs => .adr (erL cs)
  | .sl _ cs => .sl .sh (erL cs)
  | .agg cs => .agg (erL cs)
  | .tup cs => .tup (erL cs)
  | .fn f cs => .fn f (erL cs)
  | v => v
def erL : List AV → List AV
  | [] => []
  | c :: r => er c :: erL r
end
mutual
/-- Its tokens moved on by k. -/
def shift (k : Nat) : AV → AV
  | .sl (.ow t) cs => .sl (.ow (t + k)) (shiftL k cs)
  | .sl .sh cs => .sl .sh (shiftL k cs)
  | .sl .nl cs => .sl .nl (shiftL k cs)
  | .agg cs => .agg (shiftL k cs)
  | .tup cs => .tup (shiftL k cs)
  | v => v
def shiftL (k : Nat) : List AV → List AV
  | [] => []
  | c :: r => shift k c :: shiftL k r
end
end AV

def flat (xs : List AV) : List AV := xs.flatMap AV.cells

structure Mem where
  boxes : List (List AV)
  toks : List (Nat × Nat)

abbrev Env := Nat → AV
def upd (e : Env) (d : Nat) (v : AV) : Env := fun t => if t = d then v else e t
def bot : Env := fun _ => .any
def pick : List Nat → Env → Env
  | [], _ => bot
  | k :: ks, e => upd (pick ks e) k (e k)
def argEnv : Nat → List AV → Env
  | _, [] => bot
  | k, a :: r => upd (argEnv (k + 1) r) k a
def updO (e : Env) (d : Option Nat) (v : AV) : Env :=
  match d with
  | some d => upd e d v
  | none => e

theorem upd_same (e : Env) (d : Nat) (v : AV) : upd e d v d = v := by simp [upd]
theorem upd_ne (e : Env) (d : Nat) (v : AV) (t : Nat) (h : t ≠ d) : upd e d v t = e t := by simp [upd, h]

inductive X where
  | t (n : Nat)
  | c (v : AV)
def X.ev (e : Env) : X → AV
  | .t n => e n
  | .c v => v

inductive SOp where
  | mv (x : X)
  | pk (c a b : X)
  | al (zs : List AV)
  | bx (x : X)
  | bd (zs : List AV) (ps : List (Nat × Nat × X))
  | bs (sz : Nat) (xs : List X)
  | be
  | ld (ag : Bool) (n : Nat) (x : X)
  | st (n : Nat) (x y : X)
  | nc (x : X)
  | bin (op : BinOp) (x y : X)
  | beq (ne : Bool) (x y : X)
  | seq (ne : Bool) (ks : List IntKind) (x y : X)
  | nt (x : X)
  | ng (x : X)
  | cv (k : IntKind) (x : X)
  | b2s (x : X)
  | mf (f : FuncId) (cs : List X)
  | mk (z : AV) (bytes : Nat) (x y : X)
  | mkb (z : AV) (bytes : Nat) (x : X)
  | clr (zs : List AV) (x : X)
  | sls (x : X) (lo hi : Option X)
  | slc (sz : Nat) (x : X) (lo hi : Option X)
  | fa (o : Nat) (x : X)
  | fld (ag : Bool) (n o : Nat) (x : X)
  | ia (sz : Nat) (x i : X)
  | iaA (len sz : Nat) (x i : X)
  | ixA (ag : Bool) (len sz : Nat) (x i : X)
  | ixS (x i : X)
  | ext (i : Nat) (x : X)
  | call (f : FuncId) (args : List X)
  | dyn (x : X) (args : List X)
  | len (x : X)
  | lenS (x : X)
  | app (sz bytes : Nat) (x y : X)
  | appS (x y : X)
  | mn (x y : X)
  | mx (x y : X)

structure SI where
  g : Option (Nat × Bool)
  d : Option Nat
  o : SOp

inductive Ex where
  | normal
  | exit (n : Nat)
  | ret

inductive SC where
  | skip
  | ret
  | exit (n : Nat)
  | reg (dr : Bool) (ops : List SI)
  | seq (a b : SC)
  | cond (x : X) (a b : SC)
  | block (n : Nat) (a : SC)
  | loop (keep : List Nat) (a : SC)

inductive SRes where
  | t (n : Nat)
  | c (n : Nat) (ag : Bool) (size : Nat)

inductive FMode where
  | pure
  | own
  | box
  | full

structure SFun where
  nt : Nat
  res : List SRes
  mode : FMode
  body : SC

/-- n cells from o on, as one value. -/
def cut (ag : Bool) (n o : Nat) (cs : List AV) : Option AV :=
  if o + n ≤ cs.length then (if ag then some (.agg ((cs.drop o).take n)) else cs[o]?) else none

/-- The cells vs laid over cs from o on. -/
def lay (cs : List AV) (o : Nat) (vs : List AV) : List AV := cs.take o ++ vs ++ cs.drop (o + vs.length)

def ibin (op : BinOp) (k : IntKind) (a b : Int) : Option AV :=
  match op with
  | .add => some (.int k (k.wrap (a + b)))
  | .sub => some (.int k (k.wrap (a - b)))
  | .mul => some (.int k (k.wrap (a * b)))
  | .quo => if b = 0 then none else some (.int k (k.wrap (a.tdiv b)))
  | .rem => if b = 0 then none else some (.int k (a.tmod b))
  | .and => some (.int k (k.wrap (BitVec.ofInt k.bits a &&& BitVec.ofInt k.bits b).toNat))
  | .or => some (.int k (k.wrap (BitVec.ofInt k.bits a ||| BitVec.ofInt k.bits b).toNat))
  | .xor => some (.int k (k.wrap (BitVec.ofInt k.bits a ^^^ BitVec.ofInt k.bits b).toNat))
  | .eql => some (.bool (a == b))
  | .neq => some (.bool (a != b))
  | .lss => some (.bool (decide (a < b)))
  | .leq => some (.bool (decide (a ≤ b)))
  | .gtr => some (.bool (decide (a > b)))
  | .geq => some (.bool (decide (a ≥ b)))
  | _ => none

def sbin (op : BinOp) (a b : ByteArray) : Option AV :=
  match op with
  | .add => if a.size + b.size < 9223372036854775807 then some (.str (a ++ b)) else none
  | .eql => some (.bool (a.toList == b.toList))
  | .neq => some (.bool !(a.toList == b.toList))
  | _ => none

def abin (op : BinOp) (x y : AV) : Option AV :=
  match x, y with
  | .int k a, .int k' b =>
    match op with
    | .shl => if b < 0 then none else some (.int k (k.wrap (a * 2 ^ (min b.toNat k.bits))))
    | .shr => if b < 0 then none else some (.int k (a.fdiv (2 ^ (min b.toNat k.bits))))
    | op => if k = k' then ibin op k a b else none
  | .str a, .str b => sbin op a b
  | _, _ => none

/-- Are the cells alike? The cells are whole numbers of the kinds ks. -/
def ieqs : List IntKind → List AV → List AV → Option Bool
  | [], [], [] => some true
  | k :: ks, .int k1 a :: xs, .int k2 b :: ys =>
    if k = k1 ∧ k = k2 then (if a = b then ieqs ks xs ys else (ieqs ks xs ys).map fun _ => false) else none
  | _, _, _ => none

def fillA (cs : List AV) : List (Nat × List AV) → Option (List AV)
  | [] => some cs
  | (o, vs) :: r => if o + vs.length ≤ cs.length then fillA (lay cs o vs) r else none

def evL (e : Env) : List X → List AV
  | [] => []
  | x :: r => x.ev e :: evL e r

def evP (e : Env) : List (Nat × Nat × X) → Option (List (Nat × List AV))
  | [] => some []
  | (o, n, x) :: r =>
    if (x.ev e).known ∧ (x.ev e).cells.length = n then (evP e r).map fun l => (o, (x.ev e).cells) :: l else none

def okE (sz : Nat) (v : AV) : Bool := v.cells.length == sz && v.cells.all AV.one

def hdOk (sz : Nat) : List AV → Bool
  | [] => true
  | x :: _ => x.cells.length == sz

def loBound : Option AV → Option Int
  | none => some 0
  | some (.int _ n) => some n
  | _ => none
def hiBound (len : Nat) : Option AV → Option Int
  | none => some len
  | some (.int _ n) => some n
  | _ => none
def bounds (len : Nat) (lo hi : Option AV) : Option (Nat × Nat) :=
  match loBound lo, hiBound len hi with
  | some l, some h => if 0 ≤ l ∧ l ≤ h ∧ h ≤ len then some (l.toNat, h.toNat) else none
  | _, _ => none

def byteCells (s : ByteArray) : List AV := s.data.toList.map fun b => .int .u8 b.toNat

def bytesOf : List AV → Option (List UInt8)
  | [] => some []
  | .int .u8 n :: r => (bytesOf r).map fun l => UInt8.ofNat n.toNat :: l
  | _ => none

/-- The append of the elements ys. -/
def appA (sz bytes : Nat) (t : Tok) (xs ys : List AV) (M : Mem) : Option (AV × Mem) :=
  if ys.all (okE sz) = true ∧ (xs.length + ys.length) * bytes ≤ 140737488355328 ∧ 0 < sz then
    match t with
    | .nl => match xs, ys with
      | [], [] => some (.sl .nl [], M)
      | [], y :: r => some (.sl (.ow M.toks.length) (y :: r), ⟨M.boxes, M.toks ++ [((y :: r).length, sz)]⟩)
      | _, _ => none
    | .ow i => if M.toks[i]? = some (xs.length, sz) then some (.sl (.ow i) (xs ++ ys), ⟨M.boxes, M.toks.set i ((xs ++ ys).length, sz)⟩) else none
    | .sh => none
  else none

def mapO (f : AV → Option AV) : List AV → Option (List AV)
  | [] => some []
  | x :: r => match f x, mapO f r with
    | some y, some l => some (y :: l)
    | _, _ => none

/-- n elements of sz cells each, out of a row of cells. -/
def chunk (sz : Nat) : Nat → List AV → List AV
  | 0, _ => []
  | n + 1, l => .agg (l.take sz) :: chunk sz n (l.drop sz)
def elems (ag : Bool) (sz n : Nat) (l : List AV) : Option (List AV) :=
  if ag then some (chunk sz n l) else if sz = 1 ∧ l.all AV.one = true then some l else none

/-- What is lent to a call that has its memory for itself. -/
def snapN : Nat → Mem → AV → Option AV
  | 0, _, _ => none
  | k + 1, M, v => match v with
    | .int i n => some (.int i n)
    | .bool b => some (.bool b)
    | .str s => some (.str s)
    | .nil => some .nil
    | .sl _ xs => if AV.datL xs then some (.sl .sh (AV.erL xs)) else none
    | .agg cs => (mapO (snapN k M) cs).map .agg
    | .fn f cs => (mapO (snapN k M) cs).map (.fn f)
    | .adr cs => (mapO (snapN k M) cs).map .adr
    | .ptr b o => match M.boxes[b]? with
      | some cs => (mapO (snapN k M) (cs.drop o)).map .adr
      | none => none
    | .bsl b o n sz ag => match M.boxes[b]? with
      | some cs => if o + n * sz ≤ cs.length then (match mapO (snapN k M) ((cs.drop o).take (n * sz)) with
        | some l => (elems ag sz n l).map (.sl .sh)
        | none => none) else none
      | none => none
    | _ => none
def snapL (M : Mem) : List AV → Option (List AV) := mapO (snapN 6 M)

namespace AV
mutual
/-- A value that shares nothing with what was there: each slice of it has a token, or no element. -/
def own : AV → Bool
  | .int _ _ => true
  | .bool _ => true
  | .str _ => true
  | .nil => true
  | .sl (.ow _) xs => ownL xs
  | .sl _ [] => true
  | .agg cs => ownL cs
  | .tup cs => ownL cs
  | _ => false
def ownL : List AV → Bool
  | [] => true
  | c :: r => own c && ownL r
end
end AV

def mapA {σ : Type} (f : AV → σ → Option (AV × σ)) : List AV → σ → Option (List AV × σ)
  | [], s => some ([], s)
  | x :: r, s => match f x s with
    | some (y, s1) => match mapA f r s1 with
      | some (l, s2) => some (y :: l, s2)
      | none => none
    | none => none

/-- The slices over boxes are sealed: each becomes one with a token. (The boxes, in the order of their tokens.) -/
def sealN : Nat → Mem → AV → List (Nat × Nat × Nat) → Option (AV × List (Nat × Nat × Nat))
  | 0, _, _, _ => none
  | k + 1, M, v, acc => match v with
    | .int i n => some (.int i n, acc)
    | .bool b => some (.bool b, acc)
    | .str s => some (.str s, acc)
    | .nil => some (.nil, acc)
    | .sl t xs => some (.sl t xs, acc)
    | .agg cs => (mapA (sealN k M) cs acc).map fun r => (.agg r.1, r.2)
    | .tup cs => (mapA (sealN k M) cs acc).map fun r => (.tup r.1, r.2)
    | .bsl _ _ 0 _ _ => some (.sl .sh [], acc)
    | .bsl b o (n + 1) sz ag => match M.boxes[b]? with
      | some cs => if o = 0 ∧ (n + 1) * sz ≤ cs.length then (match mapA (sealN k M) (cs.take ((n + 1) * sz)) acc with
        | some (l, acc') => (elems ag sz (n + 1) l).map fun xs => (.sl (.ow (M.toks.length + acc'.length)) xs, acc' ++ [(b, n + 1, sz)])
        | none => none) else none
      | none => none
    | _ => none

/-- The slices with tokens become slices over new boxes, base and on. (The tokens with their lengths, and the boxes.) -/
def boxN : Nat → Nat → AV → List ((Nat × Nat) × List AV) → Option (AV × List ((Nat × Nat) × List AV))
  | 0, _, _, _ => none
  | k + 1, base, v, acc => match v with
    | .int i n => some (.int i n, acc)
    | .bool b => some (.bool b, acc)
    | .str s => some (.str s, acc)
    | .nil => some (.nil, acc)
    | .sl _ [] => some (.sl .sh [], acc)
    | .sl (.ow t) (x :: xs) => match mapA (boxN k base) (flat (x :: xs)) acc with
      | some (cs, acc') => some (.bsl (base + acc'.length) 0 (xs.length + 1) x.cells.length x.isAgg, acc' ++ [((t, xs.length + 1), cs)])
      | none => none
    | .agg cs => (mapA (boxN k base) cs acc).map fun r => (.agg r.1, r.2)
    | .tup cs => (mapA (boxN k base) cs acc).map fun r => (.tup r.1, r.2)
    | _ => none

def distinct : List Nat → Bool
  | [] => true
  | x :: r => !r.contains x && distinct r

section
variable (cl : FuncId → List AV → Mem → Option (AV × Mem))
def SOp.ev (e : Env) (M : Mem) : SOp → Option (AV × Mem)
  | .mv x => some (x.ev e, M)
  | .pk c a b => match c.ev e with
    | .bool t => some (bif t then a.ev e else b.ev e, M)
    | _ => none
  | .al zs => some (.ptr M.boxes.length 0, ⟨M.boxes ++ [zs], M.toks⟩)
  | .bx x => if (x.ev e).known then some (.ptr M.boxes.length 0, ⟨M.boxes ++ [(x.ev e).cells], M.toks⟩) else none
  | .bd zs ps => match evP e ps with
    | some l => (fillA zs l).map fun cs => (.agg cs, M)
    | none => none
  | .bs sz xs => if (evL e xs).all (okE sz) = true then some (.sl (.ow M.toks.length) (evL e xs), ⟨M.boxes, M.toks ++ [(xs.length, sz)]⟩) else none
  | .be => some (.sl .nl [], M)
  | .ld ag n x => match x.ev e with
    | .ptr b o => match M.boxes[b]? with
      | some cs => (cut ag n o cs).map fun v => (v, M)
      | none => none
    | .adr cs => (cut ag n 0 cs).map fun v => (v, M)
    | _ => none
  | .st n x y => match x.ev e with
    | .ptr b o => match M.boxes[b]? with
      | some cs =>
        if okE n (y.ev e) = true ∧ o + n ≤ cs.length then
          some (.any, ⟨M.boxes.set b (lay cs o (y.ev e).cells), M.toks⟩) else none
      | none => none
    | _ => none
  | .nc x => match x.ev e with
    | .ptr b o => some (.ptr b o, M)
    | .adr cs => some (.adr cs, M)
    | .fn f cs => some (.fn f cs, M)
    | _ => none
  | .bin op x y => (abin op (x.ev e) (y.ev e)).map fun v => (v, M)
  | .beq ne x y => match x.ev e, y.ev e with
    | .bool a, .bool b => some (.bool (ne ^^ (a == b)), M)
    | _, _ => none
  | .seq ne ks x y => match x.ev e, y.ev e with
    | .agg xs, .agg ys => (ieqs ks xs ys).map fun r => (.bool (ne ^^ r), M)
    | _, _ => none
  | .nt x => match x.ev e with
    | .bool b => some (.bool !b, M)
    | _ => none
  | .ng x => match x.ev e with
    | .int k n => some (.int k (k.wrap (0 - n)), M)
    | _ => none
  | .cv k x => match x.ev e with
    | .int _ n => some (.int k (k.wrap n), M)
    | _ => none
  | .b2s x => match x.ev e with
    | .sl _ xs => (bytesOf xs).map fun l => (.str ⟨l.toArray⟩, M)
    | _ => none
  | .mf f cs => some (.fn f (evL e cs), M)
  | .mk z bytes x y => match x.ev e, y.ev e with
    | .int _ n, .int _ c =>
      if 0 ≤ n ∧ n ≤ c ∧ c * bytes ≤ 140737488355328 ∧ c ≤ 9223372036854775807 then
        some (.sl (.ow M.toks.length) (List.replicate n.toNat z), ⟨M.boxes, M.toks ++ [(n.toNat, z.cells.length)]⟩) else none
    | _, _ => none
  | .mkb z bytes x => match x.ev e with
    | .int _ n =>
      if 0 ≤ n ∧ n * bytes ≤ 140737488355328 ∧ n ≤ 9223372036854775807 then
        some (.bsl M.boxes.length 0 n.toNat z.cells.length z.isAgg, ⟨M.boxes ++ [flat (List.replicate n.toNat z)], M.toks⟩) else none
    | _ => none
  | .clr zs x => match x.ev e with
    | .bsl b o n sz _ => match M.boxes[b]? with
      | some cs => if sz = zs.length ∧ o + n * sz ≤ cs.length then some (.any, ⟨M.boxes.set b (lay cs o (flat (List.replicate n (.agg zs)))), M.toks⟩) else none
      | none => none
    | _ => none
  | .sls x lo hi => match x.ev e with
    | .str s => (bounds s.size (lo.map (·.ev e)) (hi.map (·.ev e))).map fun r => (.str (s.extract r.1 r.2), M)
    | _ => none
  | .slc sz x lo hi => match x.ev e with
    | .sl _ xs => if hdOk sz xs = true then (bounds xs.length (lo.map (·.ev e)) (hi.map (·.ev e))).map fun r => (.sl .sh ((xs.drop r.1).take (r.2 - r.1)), M) else none
    | .bsl b o n sz' ag => if sz = sz' then (bounds n (lo.map (·.ev e)) (hi.map (·.ev e))).map fun r => (.bsl b (o + r.1 * sz) (r.2 - r.1) sz ag, M) else none
    | _ => none
  | .fa o x => match x.ev e with
    | .ptr b k => some (.ptr b (k + o), M)
    | .adr cs => some (.adr (cs.drop o), M)
    | _ => none
  | .fld ag n o x => match x.ev e with
    | .agg cs => (cut ag n o cs).map fun v => (v, M)
    | _ => none
  | .ia sz x i => match x.ev e, i.ev e with
    | .sl _ xs, .int _ i =>
      if 0 ≤ i then match xs[i.toNat]? with
        | some v => if v.known = true ∧ v.cells.length = sz then some (.adr v.cells, M) else none
        | none => none
      else none
    | .bsl b o n sz' _, .int _ i => if 0 ≤ i ∧ i < n ∧ sz = sz' then some (.ptr b (o + i.toNat * sz), M) else none
    | _, _ => none
  | .iaA m sz x i => match x.ev e, i.ev e with
    | .ptr b o, .int _ i => if 0 ≤ i ∧ i < m then some (.ptr b (o + i.toNat * sz), M) else none
    | .adr cs, .int _ i => if 0 ≤ i ∧ i < m then some (.adr (cs.drop (i.toNat * sz)), M) else none
    | _, _ => none
  | .ixA ag m sz x i => match x.ev e, i.ev e with
    | .agg cs, .int _ i => if 0 ≤ i ∧ i < m then (cut ag sz (i.toNat * sz) cs).map fun v => (v, M) else none
    | _, _ => none
  | .ixS x i => match x.ev e, i.ev e with
    | .str s, .int _ i =>
      if 0 ≤ i then match s[i.toNat]? with
        | some b => some (.int .u8 b.toNat, M)
        | none => none
      else none
    | _, _ => none
  | .ext i x => match x.ev e with
    | .tup vs => (vs[i]?).map fun v => (v, M)
    | _ => none
  | .call f args => cl f (evL e args) M
  | .dyn x args => match x.ev e with
    | .fn f cs => cl f (evL e args ++ cs) M
    | _ => none
  | .len x => match x.ev e with
    | .sl _ xs => some (.int .i64 xs.length, M)
    | .bsl _ _ n _ _ => some (.int .i64 n, M)
    | _ => none
  | .lenS x => match x.ev e with
    | .str s => some (.int .i64 s.size, M)
    | _ => none
  | .app sz bytes x y => match x.ev e, y.ev e with
    | .sl t xs, .sl _ ys => appA sz bytes t xs ys M
    | _, _ => none
  | .appS x y => match x.ev e, y.ev e with
    | .sl t xs, .str s => appA 1 1 t xs (byteCells s) M
    | _, _ => none
  | .mn x y => match x.ev e, y.ev e with
    | .int k a, .int k' b => if k = k' then some (.int k (if b < a then b else a), M) else none
    | _, _ => none
  | .mx x y => match x.ev e, y.ev e with
    | .int k a, .int k' b => if k = k' then some (.int k (if b > a then b else a), M) else none
    | _, _ => none

def wantA (e : Env) : Option (Nat × Bool) → Option Bool
  | none => some true
  | some (s, want) => match e s with
    | .bool b => some (b == want)
    | .und => some false
    | _ => none

def SI.ev (e : Env) (M : Mem) (i : SI) : Option (AV × Mem) :=
  match wantA e i.g with
  | some true => i.o.ev cl e M
  | some false => some (.und, M)
  | none => none

def evOps (e : Env) (M : Mem) : List SI → Option (Env × Mem)
  | [] => some (e, M)
  | i :: r => match i.ev cl e M with
    | some (v, M') => evOps (updO e i.d v) M' r
    | none => none
end

def resA (e : Env) (M : Mem) : SRes → Option AV
  | .t n => some (e n)
  | .c n ag size => match e n with
    | .ptr b o => match M.boxes[b]? with
      | some cs => cut ag size o cs
      | none => none
    | _ => none
def resL (e : Env) (M : Mem) : List SRes → Option (List AV)
  | [] => some []
  | r :: l => match resA e M r, resL e M l with
    | some v, some vs => some (v :: vs)
    | _, _ => none
def oneOrTup : List AV → AV
  | [v] => v
  | vs => .tup vs

/-- What the machine is given: the functions of the program that it runs itself, and those whose answer is told. -/
structure Tab where
  fn : FuncId → Option SFun
  ext : FuncId → Option (List AV → Option (AV × List (Nat × Nat)))

def runF (Dn : SC → Env → Mem → Option (Ex × Env × Mem)) (s : SFun) (args : List AV) (M : Mem) : Option (AV × Mem) :=
  if args.length ≤ s.nt then
    match Dn s.body (argEnv 0 args) M with
    | some (.normal, e, M') => (resL e M' s.res).map fun l => (oneOrTup l, M')
    | some (.ret, e, M') => (resL e M' s.res).map fun l => (oneOrTup l, M')
    | _ => none
  else none

/-- What a call with a memory of its own hands over: sealed. -/
def sealR (r : AV) (M1 : Mem) : Option (AV × List (Nat × Nat)) :=
  match sealN 6 M1 r [] with
  | some (r', acc) => if AV.own r' = true ∧ distinct (acc.map (·.1)) = true then some (r', M1.toks ++ acc.map fun p => (p.2.1, 0)) else none
  | none => none
/-- What it hands over, in boxes. -/
def boxR (base : Nat) (r : AV) : Option (AV × List (List AV)) :=
  match boxN 6 base r [] with
  | some (r', acc) => if distinct (acc.map (·.1.1)) = true then some (r', acc.map (·.2)) else none
  | none => none

section
variable (Dn : SC → Env → Mem → Option (Ex × Env × Mem))
def runOwn (s : SFun) (as : List AV) : Option (AV × List (Nat × Nat)) :=
  match runF Dn s as ⟨[], []⟩ with
  | some (r, M1) => sealR r M1
  | none => none
def clFull (s : SFun) (args : List AV) (M : Mem) : Option (AV × Mem) :=
  match runF Dn s args M with
  | some (r, M1) => if r.bd M.boxes.length = true ∧ (M1.boxes.take M.boxes.length).all (AV.bdL M.boxes.length) = true then some (r, ⟨M1.boxes.take M.boxes.length, M1.toks⟩) else some (r, M1)
  | none => none
def clD (T : Tab) (fl : Bool) (f : FuncId) (args : List AV) (M : Mem) : Option (AV × Mem) :=
  match T.ext f with
  | some F => match snapL M args with
    | some as => match F as with
      | some (r, ts) => if AV.own r then some (r.shift M.toks.length, ⟨M.boxes, M.toks ++ ts⟩) else none
      | none => none
    | none => none
  | none => match T.fn f with
    | some s => match s.mode, snapL M args with
      | .pure, some as => match runOwn Dn s as with
        | some (r, _) => some (r.er, M)
        | none => none
      | .own, some as => match runOwn Dn s as with
        | some (r, ts) => some (r.shift M.toks.length, ⟨M.boxes, M.toks ++ ts⟩)
        | none => none
      | .box, some as => match runOwn Dn s as with
        | some (r, _) => match boxR M.boxes.length r with
          | some (r', bs) => some (r', ⟨M.boxes ++ bs, M.toks⟩)
          | none => none
        | none => none
      | .pure, none => if fl then clFull Dn s args M else none
      | .full, _ => if fl then clFull Dn s args M else none
      | _, none => none
    | none => none
end

def D (T : Tab) : Nat → SC → Env → Mem → Option (Ex × Env × Mem)
  | 0, _, _, _ => none
  | n + 1, c, e, M => match c with
    | .skip => some (.normal, e, M)
    | .ret => some (.ret, e, M)
    | .exit k => some (.exit k, e, M)
    | .reg dr ops => (evOps (clD (D T n) T (!dr)) e M ops).map fun r => (.normal, r.1, r.2)
    | .seq a b => match D T n a e M with
      | some (.normal, e', M') => D T n b e' M'
      | r => r
    | .cond x a b => match x.ev e with
      | .bool t => bif t then D T n a e M else D T n b e M
      | _ => none
    | .block k a => match D T n a e M with
      | some (.exit j, e', M') => if j = k then some (.normal, e', M') else some (.exit j, e', M')
      | r => r
    | .loop ks a => match D T n a (pick ks e) M with
      | some (.normal, e', M') => D T n (.loop ks a) e' M'
      | some (x, e', M') => some (x, pick ks e', M')
      | none => none
end Go.AM

namespace Go.AM
open AV

/-- What is known of memory beside the values: cells that stay (of arrays; of arrays and of lent variables), the block of each box, the array behind each token at each length (block, capacity if more may be appended, cells of an element). -/
structure Gh where
  σ : Nat → Nat → Option Value
  β : Nat → Nat → Option Value
  ρ : Nat → Nat
  τ : Nat → Nat → Option (Nat × Option Nat × Nat)

inductive V (G : Gh) : AV → Value → Prop
  | int (k : IntKind) (n : Int) : V G (.int k n) (.int k n)
  | bool (b : Bool) : V G (.bool b) (.bool b)
  | str (s : ByteArray) : V G (.str s) (.string s)
  | nil : V G .nil (.pointer none)
  | ptr (b o : Nat) : V G (.ptr b o) (.pointer (some ⟨G.ρ b, o, none⟩))
  | adr (cs : List AV) (vs : Nat → Value) (blk off : Nat)
      (hβ : ∀ j, j < cs.length → G.β blk (off + j) = some (vs j))
      (hv : ∀ j c, cs[j]? = some c → V G c (vs j)) : V G (.adr cs) (.pointer (some ⟨blk, off, none⟩))
  | sl (t : Tok) (xs : List AV) (a : Option Addr) (len cap sz blk off : Nat) (vs : Nat → Value)
      (hlen : len = xs.length) (hcap : xs.length ≤ cap)
      (hsz : ∀ e, e ∈ xs → e.known = true ∧ e.cells.length = sz)
      (ha : xs ≠ [] → a = some ⟨blk, off, none⟩)
      (hσ : ∀ j, j < (flat xs).length → G.σ blk (off + j) = some (vs j))
      (hv : ∀ j c, (flat xs)[j]? = some c → V G c (vs j))
      (hnl : t = .nl → cap = 0)
      (how : ∀ i, t = .ow i → a = some ⟨blk, 0, none⟩ ∧ off = 0 ∧ ∃ c, G.τ i xs.length = some (blk, c, sz) ∧ ∀ k, c = some k → k = cap) : V G (.sl t xs) (.slice a len cap)
  | agg (cs : List AV) (arr : Array Value) (hl : arr.size = cs.length)
      (hv : ∀ j c, cs[j]? = some c → V G c (arr.getD j undef)) : V G (.agg cs) (.agg arr)
  | tup (cs : List AV) (arr : Array Value) (hl : arr.size = cs.length)
      (hv : ∀ j c, cs[j]? = some c → V G c (arr.getD j undef)) : V G (.tup cs) (.tuple arr)
  | fn (f : FuncId) (cs : List AV) (arr : Array Value) (hl : arr.size = cs.length)
      (hv : ∀ j c, cs[j]? = some c → V G c (arr.getD j undef)) : V G (.fn f cs) (.func (.func f) #[] arr)
  | bsl (b o n sz : Nat) (ag : Bool) (a : Option Addr) (cap : Nat) (hcap : n ≤ cap) (ha : 0 < n → a = some ⟨G.ρ b, o, none⟩) : V G (.bsl b o n sz ag) (.slice a n cap)
  | und : V G .und undef
  | any (v : Value) : V G .any v

theorem bdL_mem {n : Nat} : ∀ {cs : List AV}, bdL n cs = true → ∀ c ∈ cs, bd n c = true
  | [], _, c, h => by cases h
  | x :: r, hb, c, h => by
    simp only [bdL, Bool.and_eq_true] at hb
    cases h with
    | head => exact hb.1
    | tail _ h => exact bdL_mem hb.2 c h
theorem bdL_of {n : Nat} : ∀ {cs : List AV}, (∀ c ∈ cs, bd n c = true) → bdL n cs = true
  | [], _ => rfl
  | x :: r, h => by
    simp only [bdL, Bool.and_eq_true]
    exact ⟨h x (List.mem_cons_self ..), bdL_of fun c hc => h c (List.mem_cons_of_mem _ hc)⟩
theorem datL_mem : ∀ {cs : List AV}, datL cs = true → ∀ c ∈ cs, dat c = true
  | [], _, c, h => by cases h
  | x :: r, hb, c, h => by
    simp only [datL, Bool.and_eq_true] at hb
    cases h with
    | head => exact hb.1
    | tail _ h => exact datL_mem hb.2 c h
theorem datL_of : ∀ {cs : List AV}, (∀ c ∈ cs, dat c = true) → datL cs = true
  | [], _ => rfl
  | x :: r, h => by
    simp only [datL, Bool.and_eq_true]
    exact ⟨h x (List.mem_cons_self ..), datL_of fun c hc => h c (List.mem_cons_of_mem _ hc)⟩
theorem erL_eq : ∀ cs : List AV, erL cs = cs.map er
  | [] => rfl
  | c :: r => by simp [erL, erL_eq r]
theorem shiftL_eq (k : Nat) : ∀ cs : List AV, shiftL k cs = cs.map (shift k)
  | [] => rfl
  | c :: r => by simp [shiftL, shiftL_eq k r]

theorem bd_cells {n : Nat} {v : AV} (h : bd n v = true) : ∀ c ∈ v.cells, bd n c = true := by
  intro c hc
  cases v <;> simp only [AV.cells, List.mem_singleton] at hc <;> first | (subst hc; exact h) | exact bdL_mem (by simpa only [bd] using h) c hc
theorem bd_flat {n : Nat} {xs : List AV} (h : bdL n xs = true) : ∀ c ∈ flat xs, bd n c = true := by
  intro c hc
  obtain ⟨e, he, hc⟩ := List.mem_flatMap.1 hc
  exact bd_cells (bdL_mem h e he) c hc
theorem dat_cells {v : AV} (h : dat v = true) : ∀ c ∈ v.cells, dat c = true := by
  intro c hc
  cases v <;> simp only [AV.cells, List.mem_singleton] at hc <;> first | (subst hc; exact h) | exact datL_mem (by simpa only [dat] using h) c hc
theorem dat_flat {xs : List AV} (h : datL xs = true) : ∀ c ∈ flat xs, dat c = true := by
  intro c hc
  obtain ⟨e, he, hc⟩ := List.mem_flatMap.1 hc
  exact dat_cells (datL_mem h e he) c hc

mutual
theorem bd_le {n m : Nat} (hnm : n ≤ m) : ∀ v : AV, bd n v = true → bd m v = true
  | .ptr b o, h => by simp only [bd, decide_eq_true_eq] at h ⊢; omega
  | .adr cs, h => by simp only [bd] at h ⊢; exact bdL_le hnm cs h
  | .sl _ cs, h => by simp only [bd] at h ⊢; exact bdL_le hnm cs h
  | .agg cs, h => by simp only [bd] at h ⊢; exact bdL_le hnm cs h
  | .tup cs, h => by simp only [bd] at h ⊢; exact bdL_le hnm cs h
  | .fn _ cs, h => by simp only [bd] at h ⊢; exact bdL_le hnm cs h
  | .bsl .., h => by simp only [bd, decide_eq_true_eq] at h ⊢; omega
  | .int .., _ => rfl
  | .bool _, _ => rfl
  | .str _, _ => rfl
  | .nil, _ => rfl
  | .und, _ => rfl
  | .any, _ => rfl
theorem bdL_le {n m : Nat} (hnm : n ≤ m) : ∀ cs : List AV, bdL n cs = true → bdL m cs = true
  | [], _ => rfl
  | c :: r, h => by
    simp only [bdL, Bool.and_eq_true] at h ⊢
    exact ⟨bd_le hnm c h.1, bdL_le hnm r h.2⟩
end
mutual
theorem dat_bd {n : Nat} : ∀ v : AV, dat v = true → bd n v = true
  | .ptr b o, h => by simp [dat] at h
  | .adr cs, h => by simp [dat] at h
  | .sl _ cs, h => by simp only [bd, dat] at h ⊢; exact datL_bdL cs h
  | .agg cs, h => by simp only [bd, dat] at h ⊢; exact datL_bdL cs h
  | .tup cs, h => by simp only [bd, dat] at h ⊢; exact datL_bdL cs h
  | .fn _ cs, h => by simp [dat] at h
  | .bsl .., h => by simp [dat] at h
  | .int .., _ => rfl
  | .bool _, _ => rfl
  | .str _, _ => rfl
  | .nil, _ => rfl
  | .und, _ => rfl
  | .any, _ => rfl
theorem datL_bdL {n : Nat} : ∀ cs : List AV, datL cs = true → bdL n cs = true
  | [], _ => rfl
  | c :: r, h => by
    simp only [bdL, datL, Bool.and_eq_true] at h ⊢
    exact ⟨dat_bd c h.1, datL_bdL r h.2⟩
end
mutual
theorem dat_er : ∀ v : AV, dat v = true → dat (er v) = true
  | .ptr b o, h => by simp [dat] at h
  | .adr cs, h => by simp [dat] at h
  | .sl _ cs, h => by simp only [er, dat] at h ⊢; exact datL_erL cs h
  | .agg cs, h => by simp only [er, dat] at h ⊢; exact datL_erL cs h
  | .tup cs, h => by simp only [er, dat] at h ⊢; exact datL_erL cs h
  | .fn _ cs, h => by simp [dat] at h
  | .bsl .., h => by simp [dat] at h
  | .int .., h => h
  | .bool _, h => h
  | .str _, h => h
  | .nil, h => h
  | .und, h => h
  | .any, h => h
theorem datL_erL : ∀ cs : List AV, datL cs = true → datL (erL cs) = true
  | [], _ => rfl
  | c :: r, h => by
    simp only [erL, datL, Bool.and_eq_true] at h ⊢
    exact ⟨dat_er c h.1, datL_erL r h.2⟩
end
mutual
theorem dat_shift (k : Nat) : ∀ v : AV, dat v = true → dat (shift k v) = true
  | .ptr b o, h => by simp [dat] at h
  | .adr cs, h => by simp [dat] at h
  | .sl (.ow t) cs, h => by simp only [shift, dat] at h ⊢; exact datL_shiftL k cs h
  | .sl .sh cs, h => by simp only [shift, dat] at h ⊢; exact datL_shiftL k cs h
  | .sl .nl cs, h => by simp only [shift, dat] at h ⊢; exact datL_shiftL k cs h
  | .agg cs, h => by simp only [shift, dat] at h ⊢; exact datL_shiftL k cs h
  | .tup cs, h => by simp only [shift, dat] at h ⊢; exact datL_shiftL k cs h
  | .fn _ cs, h => by simp [dat] at h
  | .bsl .., h => by simp [dat] at h
  | .int .., h => h
  | .bool _, h => h
  | .str _, h => h
  | .nil, h => h
  | .und, h => h
  | .any, h => h
theorem datL_shiftL (k : Nat) : ∀ cs : List AV, datL cs = true → datL (shiftL k cs) = true
  | [], _ => rfl
  | c :: r, h => by
    simp only [shiftL, datL, Bool.and_eq_true] at h ⊢
    exact ⟨dat_shift k c h.1, datL_shiftL k r h.2⟩
end

theorem cells_er (v : AV) : (er v).cells = v.cells.map er := by
  cases v <;> simp [er, AV.cells, erL_eq]
theorem flat_er (xs : List AV) : flat (xs.map er) = (flat xs).map er := by
  unfold flat
  induction xs with
  | nil => rfl
  | cons x r ih => simp only [List.map_cons, List.flatMap_cons, List.map_append, ih, cells_er]
theorem known_er (v : AV) : (er v).known = v.known := by cases v <;> simp [er, AV.known]
theorem cells_shift (k : Nat) (v : AV) : (shift k v).cells = v.cells.map (shift k) := by
  cases v with
  | sl t cs => cases t <;> simp [shift, AV.cells]
  | _ => simp [shift, AV.cells, shiftL_eq]
theorem flat_shift (k : Nat) (xs : List AV) : flat (xs.map (shift k)) = (flat xs).map (shift k) := by
  unfold flat
  induction xs with
  | nil => rfl
  | cons x r ih => simp only [List.map_cons, List.flatMap_cons, List.map_append, ih, cells_shift]
theorem known_shift (k : Nat) (v : AV) : (shift k v).known = v.known := by
  cases v with
  | sl t cs => cases t <;> simp [shift, AV.known]
  | _ => simp [shift, AV.known]

/-- G' goes on from G: what G knows G' knows, of the boxes below n. -/
structure Gh.le (n : Nat) (G G' : Gh) : Prop where
  σ : ∀ b o v, G.σ b o = some v → G'.σ b o = some v
  β : ∀ b o v, G.β b o = some v → G'.β b o = some v
  ρ : ∀ i, i < n → G'.ρ i = G.ρ i
  τ : ∀ t l h, G.τ t l = some h → G'.τ t l = some h

theorem Gh.le.refl (n : Nat) (G : Gh) : G.le n G := ⟨fun _ _ _ h => h, fun _ _ _ h => h, fun _ _ => rfl, fun _ _ _ h => h⟩
theorem Gh.le.trans {n m : Nat} {G G' G'' : Gh} (h : G.le n G') (h' : G'.le m G'') (hnm : n ≤ m) : G.le n G'' :=
  ⟨fun b o v k => h'.σ _ _ _ (h.σ _ _ _ k), fun b o v k => h'.β _ _ _ (h.β _ _ _ k), fun i hi => (h'.ρ i (by omega)).trans (h.ρ i hi), fun t l k q => h'.τ _ _ _ (h.τ _ _ _ q)⟩

theorem getElem?_mem' {α : Type} {l : List α} {j : Nat} {c : α} (h : l[j]? = some c) : c ∈ l := List.mem_of_getElem? h

theorem V.mono {n : Nat} {G G' : Gh} (hG : G.le n G') {v : AV} {x : Value} (h : V G v x) : bd n v = true → V G' v x := by
  induction h with
  | int k m => intro _; exact .int k m
  | bool b => intro _; exact .bool b
  | str s => intro _; exact .str s
  | nil => intro _; exact .nil
  | ptr b o =>
    intro hb
    simp only [bd, decide_eq_true_eq] at hb
    rw [← hG.ρ b hb]
    exact .ptr b o
  | adr cs vs blk off hβ hv ih =>
    intro hb
    simp only [bd] at hb
    exact .adr cs vs blk off (fun j hj => hG.β _ _ _ (hβ j hj)) fun j c hc => ih j c hc (bdL_mem hb c (getElem?_mem' hc))
  | sl t xs a len cap sz blk off vs hlen hcap hsz ha hσ hv hnl how ih =>
    intro hb
    simp only [bd] at hb
    exact .sl t xs a len cap sz blk off vs hlen hcap hsz ha (fun j hj => hG.σ _ _ _ (hσ j hj)) (fun j c hc => ih j c hc (bd_flat hb c (getElem?_mem' hc))) hnl
      fun i hi => ⟨(how i hi).1, (how i hi).2.1, (how i hi).2.2.imp fun c hc => ⟨hG.τ _ _ _ hc.1, hc.2⟩⟩
  | agg cs arr hl hv ih => intro hb; simp only [bd] at hb; exact .agg cs arr hl fun j c hc => ih j c hc (bdL_mem hb c (getElem?_mem' hc))
  | tup cs arr hl hv ih => intro hb; simp only [bd] at hb; exact .tup cs arr hl fun j c hc => ih j c hc (bdL_mem hb c (getElem?_mem' hc))
  | fn f cs arr hl hv ih => intro hb; simp only [bd] at hb; exact .fn f cs arr hl fun j c hc => ih j c hc (bdL_mem hb c (getElem?_mem' hc))
  | bsl b o m sz ag a cap hcap ha => intro hb; simp only [bd, decide_eq_true_eq] at hb; exact .bsl b o m sz ag a cap hcap (fun h => by rw [hG.ρ b hb]; exact ha h)
  | und => intro _; exact .und
  | any v => intro _; exact .any v

/-- A value without pointers stays what it is, its tokens struck, where the arrays' cells stay. -/
theorem V.er {G G' : Gh} (hσ' : ∀ b o v, G.σ b o = some v → G'.σ b o = some v) {v : AV} {x : Value} (h : V G v x) : dat v = true → V G' (er v) x := by
  induction h with
  | int k m => intro _; exact .int k m
  | bool b => intro _; exact .bool b
  | str s => intro _; exact .str s
  | nil => intro _; exact .nil
  | ptr b o => intro hb; simp [dat] at hb
  | adr cs vs blk off hβ hv ih => intro hb; simp [dat] at hb
  | sl t xs a len cap sz blk off vs hlen hcap hsz ha hσ hv hnl how ih =>
    intro hb
    simp only [dat] at hb
    have hf : flat (erL xs) = (flat xs).map AV.er := by rw [erL_eq, flat_er]
    refine .sl .sh (erL xs) a len cap sz blk off vs (by rw [hlen, erL_eq, List.length_map]) (by rw [erL_eq, List.length_map]; exact hcap) ?_ ?_ ?_ ?_ (fun h => by cases h) (fun i h => by cases h)
    · intro e he
      rw [erL_eq] at he
      obtain ⟨e', he', rfl⟩ := List.mem_map.1 he
      exact ⟨by rw [known_er]; exact (hsz e' he').1, by rw [cells_er, List.length_map]; exact (hsz e' he').2⟩
    · intro hne; exact ha (by intro h0; apply hne; rw [erL_eq, h0]; rfl)
    · intro j hj; exact hσ' _ _ _ (hσ j (by rw [hf, List.length_map] at hj; exact hj))
    · intro j c hc
      rw [hf, List.getElem?_map] at hc
      cases hq : (flat xs)[j]? with
      | none => rw [hq] at hc; cases hc
      | some q =>
        rw [hq] at hc
        obtain rfl := Option.some.inj hc
        exact ih j q hq (dat_flat hb q (getElem?_mem' hq))
  | agg cs arr hl hv ih =>
    intro hb
    simp only [dat] at hb
    refine .agg (erL cs) arr (by rw [erL_eq, List.length_map]; exact hl) fun j c hc => ?_
    rw [erL_eq, List.getElem?_map] at hc
    cases hq : cs[j]? with
    | none => rw [hq] at hc; cases hc
    | some q => rw [hq] at hc; obtain rfl := Option.some.inj hc; exact ih j q hq (datL_mem hb q (getElem?_mem' hq))
  | tup cs arr hl hv ih =>
    intro hb
    simp only [dat] at hb
    refine .tup (erL cs) arr (by rw [erL_eq, List.length_map]; exact hl) fun j c hc => ?_
    rw [erL_eq, List.getElem?_map] at hc
    cases hq : cs[j]? with
    | none => rw [hq] at hc; cases hc
    | some q => rw [hq] at hc; obtain rfl := Option.some.inj hc; exact ih j q hq (datL_mem hb q (getElem?_mem' hq))
  | fn f cs arr hl hv ih => intro hb; simp [dat] at hb
  | bsl b o m sz ag a cap hcap ha => intro hb; simp [dat] at hb
  | und => intro hb; simp [dat] at hb
  | any v => intro hb; simp [dat] at hb

/-- A value without pointers, its tokens moved on. -/
theorem V.shift {G G' : Gh} (k : Nat) (hσ' : ∀ b o v, G.σ b o = some v → G'.σ b o = some v) (hτ : ∀ t l h, G.τ t l = some h → G'.τ (t + k) l = some h) {v : AV} {x : Value} (h : V G v x) : dat v = true → V G' (shift k v) x := by
  induction h with
  | int k m => intro _; exact .int k m
  | bool b => intro _; exact .bool b
  | str s => intro _; exact .str s
  | nil => intro _; exact .nil
  | ptr b o => intro hb; simp [dat] at hb
  | adr cs vs blk off hβ hv ih => intro hb; simp [dat] at hb
  | sl t xs a len cap sz blk off vs hlen hcap hsz ha hσ hv hnl how ih =>
    intro hb
    simp only [dat] at hb
    have hf : flat (shiftL k xs) = (flat xs).map (AV.shift k) := by rw [shiftL_eq, flat_shift]
    have hL : (shiftL k xs).length = xs.length := by rw [shiftL_eq, List.length_map]
    have main : ∀ t', (t' = .nl → t = .nl) → (∀ i, t' = .ow i → ∃ j, i = j + k ∧ t = .ow j) → V G' (.sl t' (shiftL k xs)) (.slice a len cap) := by
      intro t' h1 h2
      refine .sl t' (shiftL k xs) a len cap sz blk off vs (by rw [hlen, hL]) (by rw [hL]; exact hcap) ?_ ?_ ?_ ?_ (fun h => hnl (h1 h)) ?_
      · intro e he
        rw [shiftL_eq] at he
        obtain ⟨e', he', rfl⟩ := List.mem_map.1 he
        exact ⟨by rw [known_shift]; exact (hsz e' he').1, by rw [cells_shift, List.length_map]; exact (hsz e' he').2⟩
      · intro hne; exact ha (by intro h0; apply hne; rw [shiftL_eq, h0]; rfl)
      · intro j hj; exact hσ' _ _ _ (hσ j (by rw [hf, List.length_map] at hj; exact hj))
      · intro j c hc
        rw [hf, List.getElem?_map] at hc
        cases hq : (flat xs)[j]? with
        | none => rw [hq] at hc; cases hc
        | some q =>
          rw [hq] at hc
          obtain rfl := Option.some.inj hc
          exact ih j q hq (dat_flat hb q (getElem?_mem' hq))
      · intro i hi
        obtain ⟨j, rfl, hj⟩ := h2 i hi
        obtain ⟨q1, q2, c, q3, q4⟩ := how j hj
        exact ⟨q1, q2, c, by rw [hL]; exact hτ _ _ _ q3, q4⟩
    cases t with
    | sh => exact main .sh (fun h => by cases h) (fun i h => by cases h)
    | nl => exact main .nl (fun _ => rfl) (fun i h => by cases h)
    | ow i => exact main (.ow (i + k)) (fun h => by cases h) (fun j h => by cases h; exact ⟨i, rfl, rfl⟩)
  | agg cs arr hl hv ih =>
    intro hb
    simp only [dat] at hb
    refine .agg (shiftL k cs) arr (by rw [shiftL_eq, List.length_map]; exact hl) fun j c hc => ?_
    rw [shiftL_eq, List.getElem?_map] at hc
    cases hq : cs[j]? with
    | none => rw [hq] at hc; cases hc
    | some q => rw [hq] at hc; obtain rfl := Option.some.inj hc; exact ih j q hq (datL_mem hb q (getElem?_mem' hq))
  | tup cs arr hl hv ih =>
    intro hb
    simp only [dat] at hb
    refine .tup (shiftL k cs) arr (by rw [shiftL_eq, List.length_map]; exact hl) fun j c hc => ?_
    rw [shiftL_eq, List.getElem?_map] at hc
    cases hq : cs[j]? with
    | none => rw [hq] at hc; cases hc
    | some q => rw [hq] at hc; obtain rfl := Option.some.inj hc; exact ih j q hq (datL_mem hb q (getElem?_mem' hq))
  | fn f cs arr hl hv ih => intro hb; simp [dat] at hb
  | bsl b o m sz ag a cap hcap ha => intro hb; simp [dat] at hb
  | und => intro hb; simp [dat] at hb
  | any v => intro hb; simp [dat] at hb

/-- The cells of a value. -/
theorem V.cells {G : Gh} {e : AV} {v : Value} (h : V G e v) (hk : e.known = true) : v.cells.size = e.cells.length ∧ ∀ j c, e.cells[j]? = some c → V G c (v.cells.getD j undef) := by
  cases h with
  | agg cs arr hl hv => exact ⟨hl, hv⟩
  | und => simp [AV.known] at hk
  | any v => simp [AV.known] at hk
  | int k n => exact ⟨rfl, fun j c hc => by cases j with | zero => obtain rfl := Option.some.inj hc; exact .int k n | succ j => simp [AV.cells] at hc⟩
  | bool b => exact ⟨rfl, fun j c hc => by cases j with | zero => obtain rfl := Option.some.inj hc; exact .bool b | succ j => simp [AV.cells] at hc⟩
  | str s => exact ⟨rfl, fun j c hc => by cases j with | zero => obtain rfl := Option.some.inj hc; exact .str s | succ j => simp [AV.cells] at hc⟩
  | nil => exact ⟨rfl, fun j c hc => by cases j with | zero => obtain rfl := Option.some.inj hc; exact .nil | succ j => simp [AV.cells] at hc⟩
  | ptr b o => exact ⟨rfl, fun j c hc => by cases j with | zero => obtain rfl := Option.some.inj hc; exact .ptr b o | succ j => simp [AV.cells] at hc⟩
  | adr cs vs blk off hβ hv => exact ⟨rfl, fun j c hc => by cases j with | zero => obtain rfl := Option.some.inj hc; exact .adr cs vs blk off hβ hv | succ j => simp [AV.cells] at hc⟩
  | sl t xs a len cap sz blk off vs h1 h2 h3 h4 h5 h6 h7 h8 => exact ⟨rfl, fun j c hc => by cases j with | zero => obtain rfl := Option.some.inj hc; exact .sl t xs a len cap sz blk off vs h1 h2 h3 h4 h5 h6 h7 h8 | succ j => simp [AV.cells] at hc⟩
  | tup cs arr hl hv => exact ⟨rfl, fun j c hc => by cases j with | zero => obtain rfl := Option.some.inj hc; exact .tup cs arr hl hv | succ j => simp [AV.cells] at hc⟩
  | bsl b o m sz ag a cap h1 h2 => exact ⟨rfl, fun j c hc => by cases j with | zero => obtain rfl := Option.some.inj hc; exact .bsl b o m sz ag a cap h1 h2 | succ j => simp [AV.cells] at hc⟩
  | fn f cs arr hl hv => exact ⟨rfl, fun j c hc => by cases j with | zero => obtain rfl := Option.some.inj hc; exact .fn f cs arr hl hv | succ j => simp [AV.cells] at hc⟩

theorem V.one {G : Gh} {e : AV} {v : Value} (h : V G e v) (hk : e.one = true) : v.oneCell' = true := by
  cases h <;> first | rfl | (simp [AV.one] at hk)

theorem V.int_inv {G : Gh} {k : IntKind} {n : Int} {v : Value} (h : V G (.int k n) v) : v = .int k n := by cases h; rfl
theorem V.bool_inv {G : Gh} {b : Bool} {v : Value} (h : V G (.bool b) v) : v = .bool b := by cases h; rfl
theorem V.str_inv {G : Gh} {b : ByteArray} {v : Value} (h : V G (.str b) v) : v = .string b := by cases h; rfl
theorem V.ptr_inv {G : Gh} {b o : Nat} {v : Value} (h : V G (.ptr b o) v) : v = .pointer (some ⟨G.ρ b, o, none⟩) := by cases h; rfl
theorem V.agg_inv {G : Gh} {cs : List AV} {v : Value} (h : V G (.agg cs) v) : ∃ arr, v = .agg arr ∧ arr.size = cs.length ∧ ∀ j c, cs[j]? = some c → V G c (arr.getD j undef) := by cases h; exact ⟨_, rfl, ‹_›, ‹_›⟩
theorem V.tup_inv {G : Gh} {cs : List AV} {v : Value} (h : V G (.tup cs) v) : ∃ arr, v = .tuple arr ∧ arr.size = cs.length ∧ ∀ j c, cs[j]? = some c → V G c (arr.getD j undef) := by cases h; exact ⟨_, rfl, ‹_›, ‹_›⟩
theorem V.fn_inv {G : Gh} {f : FuncId} {cs : List AV} {v : Value} (h : V G (.fn f cs) v) : ∃ arr, v = .func (.func f) #[] arr ∧ arr.size = cs.length ∧ ∀ j c, cs[j]? = some c → V G c (arr.getD j undef) := by cases h; exact ⟨_, rfl, ‹_›, ‹_›⟩
theorem V.adr_inv {G : Gh} {cs : List AV} {v : Value} (h : V G (.adr cs) v) : ∃ (vs : Nat → Value) (blk off : Nat), v = .pointer (some ⟨blk, off, none⟩) ∧ (∀ j, j < cs.length → G.β blk (off + j) = some (vs j)) ∧ ∀ j c, cs[j]? = some c → V G c (vs j) := by
  cases h; exact ⟨_, _, _, rfl, ‹_›, ‹_›⟩
theorem V.bsl_inv {G : Gh} {b o n sz : Nat} {ag : Bool} {v : Value} (h : V G (.bsl b o n sz ag) v) : ∃ a cap, v = .slice a n cap ∧ n ≤ cap ∧ (0 < n → a = some ⟨G.ρ b, o, none⟩) := by cases h; exact ⟨_, _, rfl, ‹_›, ‹_›⟩
theorem V.und_inv {G : Gh} {v : Value} (h : V G .und v) : v = undef := by cases h; rfl
end Go.AM

namespace Go.AM
open AV Go.RowKit

structure Inv (B : Nat) (w0 : World) (G : Gh) (M : Mem) (w : World) : Prop where
  below : Below B w0 w
  hB : B ≤ w.heap.size
  σβ : ∀ b o v, G.σ b o = some v → G.β b o = some v
  stab : ∀ b o v, G.β b o = some v → w.cell? ⟨b, o, none⟩ = some v
  box : ∀ i cs, M.boxes[i]? = some cs → bdL M.boxes.length cs = true ∧
    ∀ j c, cs[j]? = some c → ∃ x, w.cell? ⟨G.ρ i, j, none⟩ = some x ∧ w.frozen? ⟨G.ρ i, j, none⟩ = false ∧ V G c x
  boxB : ∀ i, i < M.boxes.length → B ≤ G.ρ i ∧ G.ρ i < w.heap.size ∧ ∀ j, G.β (G.ρ i) j = none
  boxinj : ∀ i j, i < M.boxes.length → j < M.boxes.length → G.ρ i = G.ρ j → i = j
  tok : ∀ t n sz, M.toks[t]? = some (n, sz) → 0 < sz → ∃ blk cap, G.τ t n = some (blk, some cap, sz) ∧ n ≤ cap ∧
    ∀ o, n * sz ≤ o → G.β blk o = none ∧ (o < cap * sz → (w.cell? ⟨blk, o, none⟩).isSome = true ∧ w.frozen? ⟨blk, o, none⟩ = false)
  tokv : ∀ t n blk cap sz, G.τ t n = some (blk, cap, sz) → (∃ m sz', M.toks[t]? = some (m, sz') ∧ (sz' = sz ∨ sz' = 0) ∧ n ≤ m) ∧ B ≤ blk ∧ blk < w.heap.size ∧ (∀ i, i < M.boxes.length → G.ρ i ≠ blk) ∧ ∀ o, o < n * sz → w.frozen? ⟨blk, o, none⟩ = false
  tokinj : ∀ t n t' n' h h', G.τ t n = some h → G.τ t' n' = some h' → h.1 = h'.1 → t = t'

/-- G' goes on from G, and below B it knows no cell more. -/
structure Goes (B n : Nat) (G G' : Gh) : Prop where
  le : G.le n G'
  σ : ∀ b, b < B → G'.σ b = G.σ b
  β : ∀ b, b < B → G'.β b = G.β b

theorem Goes.refl (B n : Nat) (G : Gh) : Goes B n G G := ⟨Gh.le.refl n G, fun _ _ => rfl, fun _ _ => rfl⟩
theorem Goes.trans {B n m : Nat} {G G' G'' : Gh} (h : Goes B n G G') (h' : Goes B m G' G'') (hnm : n ≤ m) : Goes B n G G'' :=
  ⟨h.le.trans h'.le hnm, fun b hb => (h'.σ b hb).trans (h.σ b hb), fun b hb => (h'.β b hb).trans (h.β b hb)⟩

theorem cell_lt {w : World} {b o : Nat} {v : Value} (h : w.cell? ⟨b, o, none⟩ = some v) : b < w.heap.size := World.block_lt_of_cell? _ _ h

section
variable {B : Nat} {w0 w w' : World} {G : Gh} {M : Mem}

/-- A world in which all that was is as it was. -/
theorem Inv.of_below (h : Inv B w0 G M w) (hb : Below w.heap.size w w') : Inv B w0 G M w' := by
  have hcell : ∀ b o, b < w.heap.size → w'.cell? ⟨b, o, none⟩ = w.cell? ⟨b, o, none⟩ := fun b o hb' => hb.cell (p := ⟨b, o, none⟩) hb'
  have hfrz : ∀ b o, b < w.heap.size → w'.frozen? ⟨b, o, none⟩ = w.frozen? ⟨b, o, none⟩ := fun b o hb' => hb.frozen (p := ⟨b, o, none⟩) hb'
  have hsz := hb.size
  refine ⟨h.below.trans (hb.mono h.hB), by have := h.hB; omega, h.σβ, ?_, ?_, ?_, h.boxinj, ?_, ?_, h.tokinj⟩
  · intro b o v hv
    have := h.stab b o v hv
    rw [hcell _ _ (cell_lt this)]; exact this
  · intro i cs hi
    obtain ⟨h1, h2⟩ := h.box i cs hi
    refine ⟨h1, fun j c hc => ?_⟩
    obtain ⟨x, hx, hf, hv⟩ := h2 j c hc
    exact ⟨x, by rw [hcell _ _ (cell_lt hx)]; exact hx, by rw [hfrz _ _ (cell_lt hx)]; exact hf, hv⟩
  · intro i hi
    obtain ⟨h1, h2, h3⟩ := h.boxB i hi
    exact ⟨h1, by omega, h3⟩
  · intro t n sz ht
    intro hz
    obtain ⟨blk, cap, h1, h2, h3⟩ := h.tok t n sz ht hz
    have hlt := (h.tokv t n blk _ sz h1).2.2.1
    refine ⟨blk, cap, h1, h2, fun o ho => ⟨(h3 o ho).1, fun hc => ?_⟩⟩
    rw [hcell _ _ hlt, hfrz _ _ hlt]; exact (h3 o ho).2 hc
  · intro t n blk cap sz ht
    obtain ⟨h1, h2, h3, h4, h5⟩ := h.tokv t n blk cap sz ht
    exact ⟨h1, h2, by omega, h4, fun o ho => by rw [hfrz _ _ h3]; exact h5 o ho⟩

/-- No part of what is tied lies in the block. -/
structure Fresh (G : Gh) (M : Mem) (blk : Nat) : Prop where
  β : ∀ o, G.β blk o = none
  ρ : ∀ i, i < M.boxes.length → G.ρ i ≠ blk
  τ : ∀ t l h, G.τ t l = some h → h.1 ≠ blk

theorem Inv.fresh (h : Inv B w0 G M w) {blk : Nat} (hb : w.heap.size ≤ blk) : Fresh G M blk := by
  refine ⟨fun o => ?_, fun i hi => ?_, fun t l q hq => ?_⟩
  · cases hv : G.β blk o with
    | none => rfl
    | some v => have := cell_lt (h.stab _ _ _ hv); omega
  · have := (h.boxB i hi).2.1; omega
  · obtain ⟨blk', cap, sz⟩ := q
    have := (h.tokv t l blk' cap sz hq).2.2.1
    simp only
    omega

def Gh.addBox (G : Gh) (n blk : Nat) : Gh := { G with ρ := fun i => if i = n then blk else G.ρ i }

theorem V.to_le {n : Nat} {G G' : Gh} (hG : G.le n G') {c : AV} {x : Value} (h : V G c x) (hb : bd n c = true) : V G' c x := h.mono hG hb

theorem getElem?_lt {α : Type} {l : List α} {i : Nat} {x : α} (h : l[i]? = some x) : i < l.length := by
  rcases Nat.lt_or_ge i l.length with h' | h'
  · exact h'
  · rw [List.getElem?_eq_none h'] at h; cases h

/-- A new box. -/
theorem Inv.addBox (h : Inv B w0 G M w) {blk : Nat} (hf : Fresh G M blk) (hB : B ≤ blk) (hlt : blk < w.heap.size) {cs : List AV} (hbd : bdL M.boxes.length cs = true)
    (hc : ∀ j c, cs[j]? = some c → ∃ x, w.cell? ⟨blk, j, none⟩ = some x ∧ w.frozen? ⟨blk, j, none⟩ = false ∧ V G c x) :
    Inv B w0 (G.addBox M.boxes.length blk) ⟨M.boxes ++ [cs], M.toks⟩ w ∧ Goes B M.boxes.length G (G.addBox M.boxes.length blk) ∧ (G.addBox M.boxes.length blk).ρ M.boxes.length = blk := by
  have hle : G.le M.boxes.length (G.addBox M.boxes.length blk) := ⟨fun _ _ _ h => h, fun _ _ _ h => h, fun i hi => by simp [Gh.addBox]; omega, fun _ _ _ h => h⟩
  have hρ : ∀ i, i < M.boxes.length → (G.addBox M.boxes.length blk).ρ i = G.ρ i := hle.ρ
  have hρn : (G.addBox M.boxes.length blk).ρ M.boxes.length = blk := by simp [Gh.addBox]
  refine ⟨⟨h.below, h.hB, h.σβ, h.stab, ?_, ?_, ?_, h.tok, ?_, h.tokinj⟩, ⟨hle, fun _ _ => rfl, fun _ _ => rfl⟩, hρn⟩
  · intro i cs' hi
    rw [List.getElem?_append] at hi
    split at hi
    · rename_i hil
      obtain ⟨h1, h2⟩ := h.box i cs' hi
      refine ⟨bdL_le (by simp) _ h1, fun j c hj => ?_⟩
      obtain ⟨x, q1, q2, q3⟩ := h2 j c hj
      rw [hρ i hil]
      exact ⟨x, q1, q2, q3.mono hle (bd_le (by omega) c (bdL_mem h1 c (getElem?_mem' hj)))⟩
    · rename_i hil
      have : i = M.boxes.length := by
        have := getElem?_lt hi
        simp at this; omega
      subst this
      simp at hi
      subst hi
      refine ⟨bdL_le (by simp) _ hbd, fun j c hj => ?_⟩
      obtain ⟨x, q1, q2, q3⟩ := hc j c hj
      rw [hρn]
      exact ⟨x, q1, q2, q3.mono hle (bdL_mem hbd c (getElem?_mem' hj))⟩
  · intro i hi
    simp at hi
    by_cases hil : i < M.boxes.length
    · rw [hρ i hil]; exact h.boxB i hil
    · have : i = M.boxes.length := by omega
      subst this
      rw [hρn]; exact ⟨hB, hlt, hf.β⟩
  · intro i j hi hj hij
    simp at hi hj
    by_cases hil : i < M.boxes.length <;> by_cases hjl : j < M.boxes.length
    · rw [hρ i hil, hρ j hjl] at hij; exact h.boxinj i j hil hjl hij
    · have : j = M.boxes.length := by omega
      subst this
      rw [hρ i hil, hρn] at hij; exact absurd hij (hf.ρ i hil)
    · have : i = M.boxes.length := by omega
      subst this
      rw [hρ j hjl, hρn] at hij; exact absurd hij.symm (hf.ρ j hjl)
    · omega
  · intro t n b cap sz ht
    obtain ⟨h1, h2, h3, h4, h5⟩ := h.tokv t n b cap sz ht
    refine ⟨h1, h2, h3, fun i hi => ?_, h5⟩
    simp at hi
    by_cases hil : i < M.boxes.length
    · rw [hρ i hil]; exact h4 i hil
    · have : i = M.boxes.length := by omega
      subst this
      rw [hρn]; exact fun e => hf.τ t n _ ht (by simp [e])

/-- The cells of block blk from o1 up to o2 are known from now on; the array of token t at length n is said. -/
def Gh.addArr (G : Gh) (blk o1 o2 : Nat) (vs : Nat → Value) (t n : Nat) (h : Nat × Option Nat × Nat) : Gh :=
  { G with
    σ := fun b o => if b = blk ∧ o1 ≤ o ∧ o < o2 then some (vs o) else G.σ b o
    β := fun b o => if b = blk ∧ o1 ≤ o ∧ o < o2 then some (vs o) else G.β b o
    τ := fun t' n' => if t' = t ∧ n' = n then some h else G.τ t' n' }

/-- A token's array: new (t is the next token), laid anew in another block, or longer in its block. -/
theorem Inv.addArr (h : Inv B w0 G M w) {blk o1 o2 t n cap sz : Nat} {vs : Nat → Value} {toks' : List (Nat × Nat)}
    (hB : B ≤ blk) (hlt : blk < w.heap.size)
    (hβ : ∀ o, o1 ≤ o → G.β blk o = none) (hρ : ∀ i, i < M.boxes.length → G.ρ i ≠ blk)
    (hτb : ∀ t' l q, G.τ t' l = some q → q.1 = blk → t' = t)
    (hτn : G.τ t n = none)
    (ht : toks'[t]? = some (n, sz)) (hto : ∀ t', t' ≠ t → toks'[t']? = M.toks[t']?)
    (htm : ∀ m sz', M.toks[t]? = some (m, sz') → m ≤ n ∧ sz' = sz) (hz : 0 < sz ∨ M.toks[t]? = none)
    (ho : o2 = n * sz) (h12 : o1 ≤ o2) (hcap : n ≤ cap)
    (hcell : ∀ o, o1 ≤ o → o < o2 → w.cell? ⟨blk, o, none⟩ = some (vs o))
    (hfrz : ∀ o, o < o2 → w.frozen? ⟨blk, o, none⟩ = false)
    (hspare : ∀ o, o2 ≤ o → o < cap * sz → (w.cell? ⟨blk, o, none⟩).isSome = true ∧ w.frozen? ⟨blk, o, none⟩ = false) :
    Inv B w0 (G.addArr blk o1 o2 vs t n (blk, some cap, sz)) ⟨M.boxes, toks'⟩ w ∧ Goes B M.boxes.length G (G.addArr blk o1 o2 vs t n (blk, some cap, sz)) := by
  have hσn : ∀ o, o1 ≤ o → G.σ blk o = none := fun o ho => by
    cases hv : G.σ blk o with
    | none => rfl
    | some v => have := h.σβ _ _ _ hv; rw [hβ o ho] at this; cases this
  have hle : G.le M.boxes.length (G.addArr blk o1 o2 vs t n (blk, some cap, sz)) := by
    refine ⟨fun b o v hv => ?_, fun b o v hv => ?_, fun _ _ => rfl, fun t' l q hq => ?_⟩
    · simp only [Gh.addArr]
      split
      · rename_i hc; obtain ⟨rfl, h1, _⟩ := hc; rw [hσn o h1] at hv; cases hv
      · exact hv
    · simp only [Gh.addArr]
      split
      · rename_i hc; obtain ⟨rfl, h1, _⟩ := hc; rw [hβ o h1] at hv; cases hv
      · exact hv
    · simp only [Gh.addArr]
      split
      · rename_i hc; obtain ⟨rfl, rfl⟩ := hc; rw [hτn] at hq; cases hq
      · exact hq
  refine ⟨⟨h.below, h.hB, ?_, ?_, ?_, ?_, h.boxinj, ?_, ?_, ?_⟩, ⟨hle, fun b hb => ?_, fun b hb => ?_⟩⟩
  · intro b o v hv
    simp only [Gh.addArr] at hv ⊢
    split at hv
    · rename_i hc; rw [if_pos hc]; exact hv
    · rename_i hc; rw [if_neg hc]; exact h.σβ _ _ _ hv
  · intro b o v hv
    simp only [Gh.addArr] at hv
    split at hv
    · rename_i hc
      obtain ⟨rfl, h1, h2⟩ := hc
      rw [hcell o h1 h2]; exact hv
    · exact h.stab _ _ _ hv
  · intro i cs hi
    obtain ⟨h1, h2⟩ := h.box i cs hi
    refine ⟨h1, fun j c hj => ?_⟩
    obtain ⟨x, q1, q2, q3⟩ := h2 j c hj
    have hil : i < M.boxes.length := getElem?_lt hi
    exact ⟨x, q1, q2, q3.mono hle (bd_le (by omega) c (bdL_mem h1 c (getElem?_mem' hj)))⟩
  · intro i hi
    obtain ⟨h1, h2, h3⟩ := h.boxB i hi
    refine ⟨h1, h2, fun j => ?_⟩
    simp only [Gh.addArr]
    rw [if_neg (fun hc => hρ i hi hc.1)]
    exact h3 j
  · intro t' n' sz' ht' hz'
    by_cases htt : t' = t
    · subst htt
      rw [ht] at ht'
      simp only [Option.some.injEq, Prod.mk.injEq] at ht'
      obtain ⟨rfl, rfl⟩ := ht'
      refine ⟨blk, cap, by simp [Gh.addArr], hcap, fun o ho' => ⟨?_, fun hc => hspare o (by omega) hc⟩⟩
      simp only [Gh.addArr]
      rw [if_neg (by omega)]
      exact hβ o (by omega)
    · rw [hto t' htt] at ht'
      obtain ⟨b', cap', h1, h2, h3⟩ := h.tok t' n' sz' ht' hz'
      refine ⟨b', cap', hle.τ _ _ _ h1, h2, fun o ho' => ⟨?_, (h3 o ho').2⟩⟩
      simp only [Gh.addArr]
      rw [if_neg (fun hc => htt (hτb t' n' _ h1 hc.1))]
      exact (h3 o ho').1
  · intro t' n' b' cap' sz' hq
    simp only [Gh.addArr] at hq
    split at hq
    · rename_i hc
      obtain ⟨rfl, rfl⟩ := hc
      simp only [Option.some.injEq, Prod.mk.injEq] at hq
      obtain ⟨rfl, rfl, rfl⟩ := hq
      exact ⟨⟨n', _, ht, .inl rfl, Nat.le_refl _⟩, hB, hlt, hρ, fun o ho' => hfrz o (by omega)⟩
    · obtain ⟨⟨m, s1, h1, h0, h2⟩, h3, h4, h5⟩ := h.tokv t' n' b' cap' sz' hq
      refine ⟨?_, h3, h4, h5⟩
      by_cases htt : t' = t
      · subst htt
        obtain ⟨q1, q2⟩ := htm _ _ h1
        refine ⟨n, sz, ht, ?_, by omega⟩
        rcases hz with hz | hz
        · subst q2; rcases h0 with h0 | h0 <;> omega
        · rw [hz] at h1; cases h1
      · exact ⟨m, s1, by rw [hto t' htt]; exact h1, h0, h2⟩
  · intro t1 n1 t2 n2 q1 q2 hq1 hq2 hb
    simp only [Gh.addArr] at hq1 hq2
    split at hq1 <;> split at hq2
    · rename_i c1 c2; rw [c1.1, c2.1]
    · rename_i c1 c2
      simp only [Option.some.injEq] at hq1
      subst hq1
      rw [c1.1]
      exact (hτb t2 n2 _ hq2 hb.symm).symm
    · rename_i c1 c2
      simp only [Option.some.injEq] at hq2
      subst hq2
      rw [c2.1]
      exact hτb t1 n1 _ hq1 hb
    · exact h.tokinj t1 n1 t2 n2 q1 q2 hq1 hq2 hb
  · funext o
    simp only [Gh.addArr]
    rw [if_neg (by omega)]
  · funext o
    simp only [Gh.addArr]
    rw [if_neg (by omega)]
end
end Go.AM
