/- Laws about heaps and calls that the walks use. Conditions: as each theorem states them. -/
import Derived.Test.YtdihhgkihbnnoaaAbsA
import Derived.Maps.AppendAt
import Derived.Laws.CopyRow
import Derived.Laws.Cells
namespace Go.Abs
set_option linter.unusedVariables false

/-! ### what is known of a type -/
inductive TK where
  | leaf
  | bool
  | str8
  | int (k : IntKind)
  | str (fs : List (Nat × TypeId))
  | arr (n : Nat) (e : TypeId)
  | sli (e : TypeId)
  | ptr (e : TypeId)
  deriving DecidableEq
structure TI where
  size : Nat
  bytes : Nat
  k : TK
  zero : List Value

def tkOf : TypeDesc → TK
  | .struct fs => .str (fs.toList.map fun f => (f.offset, f.type))
  | .array n e => .arr n e
  | .slice e => .sli e
  | .pointer e => .ptr e
  | .int k => .int k
  | .bool => .bool
  | .string => .str8
  | _ => .leaf
def TK.isAgg : TK → Bool
  | .str _ | .arr _ _ => true
  | _ => false

def tiOf (P : Program) (t : TypeId) : Option TI :=
  match P.info? t, P.underlying t with
  | some i, some d => match i.zero with
    | some z => some { size := i.size, bytes := i.bytes, k := tkOf d, zero := z.cells.toList }
    | none => none
  | _, _ => none

def tkAt (P : Program) (t : TypeId) : Option TK := (tiOf P t).map TI.k

/-! ### blocks, states -/
inductive Blk where
  | box (cs : List V)
  | arr (te : TypeId) (e ver : Nat) (cs : List V)
  | dead
  deriving Inhabited
def Blk.cells : Blk → List V
  | .box cs | .arr _ _ _ cs => cs
  | .dead => []
def Blk.hasVer (ver : Nat) : Blk → Bool
  | .box _ => ver == 0
  | .arr _ _ v _ => v == ver
  | .dead => false
def Blk.put (cs : List V) : Blk → Blk
  | .box _ => .box cs
  | .arr te e v _ => .arr te e v cs
  | .dead => .dead

structure St where
  tm : Nat → V
  mem : Nat → Option Blk
  nx : Nat

def cv : Value → V
  | .agg cs => if cs.toList.all Value.flat1 then .agg (cs.toList.map .sc) else .any
  | v => .sc v
def St.ev (s : St) : Operand → V
  | .tmp t => s.tm t
  | .const v => cv v
  | .global _ => .any
  | .func f => .fn (.func f) []

def upd {α : Type} (f : Nat → α) (k : Nat) (x : α) : Nat → α := fun i => if i = k then x else f i

structure Fx where
  val : V
  up : Option (Nat × Blk)

def V.cellsOf : V → Option (List V)
  | .agg cs => if cs.all V.leaf then some cs else none
  | v => if v.leaf then some [v] else none

def loadV (ti : TI) (cs : List V) : Option V :=
  if ti.k.isAgg then (if ti.size ≤ cs.length then some (.agg (cs.take ti.size)) else none)
  else cs.head?

def splice (cs : List V) (o : Nat) (ds : List V) : List V := cs.take o ++ ds ++ cs.drop (o + ds.length)

def fillV (place : Nat → Option (Nat × Nat)) (cells : List V) : List (Nat × V) → Option (List V)
  | [] => some cells
  | (i, v) :: rest =>
    match place i, v.cellsOf with
    | some (off, size), some ds => if ds.length = size ∧ off + ds.length ≤ cells.length then fillV place (splice cells off ds) rest else none
    | _, _ => none

def wr (k : IntKind) (n : Int) : V := .sc (.int k (k.wrap n))
def evInt (op : BinOp) (k : IntKind) (x y : Int) : Option V :=
  match op with
  | .add => some (.sc (.int k (k.wrap (x + y))))
  | .sub => some (.sc (.int k (k.wrap (x - y))))
  | .mul => some (.sc (.int k (k.wrap (x * y))))
  | .quo => if y = 0 then none else some (.sc (.int k (k.wrap (x.tdiv y))))
  | .rem => if y = 0 then none else some (.sc (.int k (x.tmod y)))
  | .eql => some (.sc (.bool (x == y)))
  | .neq => some (.sc (.bool (x != y)))
  | .lss => some (.sc (.bool (x < y)))
  | .leq => some (.sc (.bool (x ≤ y)))
  | .gtr => some (.sc (.bool (x > y)))
  | .geq => some (.sc (.bool (x ≥ y)))
  | .and => some (.sc (.int k (k.wrap (BitVec.ofInt k.bits x &&& BitVec.ofInt k.bits y).toNat)))
  | .or => some (.sc (.int k (k.wrap (BitVec.ofInt k.bits x ||| BitVec.ofInt k.bits y).toNat)))
  | .xor => some (.sc (.int k (k.wrap (BitVec.ofInt k.bits x ^^^ BitVec.ofInt k.bits y).toNat)))
  | .andNot => some (.sc (.int k (k.wrap (BitVec.ofInt k.bits x &&& ~~~BitVec.ofInt k.bits y).toNat)))
  | .shl | .shr => none
def evShift (op : BinOp) (k : IntKind) (x y : Int) : Option V :=
  if y < 0 then none else
  match op with
  | .shl => some (.sc (.int k (k.wrap (x * 2 ^ (min y.toNat k.bits)))))
  | .shr => some (.sc (.int k (x.fdiv (2 ^ (min y.toNat k.bits)))))
  | _ => none
def BinOp.isShift : BinOp → Bool
  | .shl | .shr => true
  | _ => false
def evBin (tk : Option TK) (op : BinOp) (x y : V) : Option V :=
  match x, y with
  | .sc (.int k a), .sc (.int k' b) => if BinOp.isShift op then evShift op k a b else if k = k' then evInt op k a b else none
  | .sc (.bool a), .sc (.bool b) => match op with
    | .eql => if tk = some .bool then some (.sc (.bool (a == b))) else none
    | .neq => if tk = some .bool then some (.sc (.bool (a != b))) else none
    | _ => none
  | _, _ => none
def evUn (op : UnOp) (x : V) : Option V :=
  match op, x with
  | .neg, .sc (.int k n) => some (.sc (.int k (k.wrap (0 - n))))
  | .xor, .sc (.int k n) => evInt .xor k (if k.signed then -1 else k.max) n
  | .not, .sc (.bool b) => some (.sc (.bool !b))
  | _, _ => none

def lenV : V → Option Nat
  | .sl _ _ _ _ len => some len
  | .lst _ _ n _ => some n
  | .sc (.slice none 0 0) => some 0
  | .sc (.string s) => some s.size
  | _ => none
/-- The cells of a slice's elements, as a source: with their number. -/
def srcV (mem : Nat → Option Blk) (e : Nat) : V → Option (Nat × List V)
  | .lst _ e' n cs => if e' = e then some (n, cs) else none
  | .sc (.slice none 0 0) => some (0, [])
  | .sl b ver e0 off len => match mem b with
    | some (.arr _ e' v cs) => if v = ver ∧ e' = e ∧ e0 = e ∧ off * e + len * e ≤ cs.length then some (len, (cs.drop (off * e)).take (len * e)) else none
    | _ => none
  | _ => none
def roomy (n bytes : Nat) : Bool := n * bytes ≤ 140737488355328 ∧ n ≤ 140737488355328
def evAppend (P : Program) (t : TypeId) (s x : V) (mem : Nat → Option Blk) (id : Nat) : Option Fx :=
  match tkAt P t with
  | some (.sli te) => match tiOf P te with
    | some ti => if 0 < ti.size ∧ ti.zero.length = ti.size then match srcV mem ti.size x with
      | some (n, ys) => match s with
        | .sc (.slice none 0 0) => if n = 0 then none else if roomy n ti.bytes then some ⟨.sl id 0 ti.size 0 n, some (id, .arr te ti.size 0 ys)⟩ else none
        | .sl b ver e0 0 len => match mem b with
          | some (.arr te' e v cs) => if v = ver ∧ e0 = e ∧ te' = te ∧ e = ti.size ∧ cs.length = len * e ∧ roomy (len + n) ti.bytes = true then some ⟨.sl b (ver + 1) e0 0 (len + n), some (b, .arr te e (ver + 1) (cs ++ ys))⟩ else none
          | _ => none
        | _ => none
      | none => none
      else none
    | none => none
  | _ => none
def evMinMax (f : Int → Int → Int) : List V → Option V
  | .sc (.int k a) :: rest => rest.foldlM (fun acc y => match acc, y with | .sc (.int k' a'), .sc (.int k'' b) => if k'' = k' then some (.sc (.int k' (f a' b))) else none | _, _ => none) (.sc (.int k a))
  | _ => none
def mx2 (x y : Int) : Int := if y > x then y else x
def mn2 (x y : Int) : Int := if y < x then y else x

def evBuiltin (P : Program) (b : Builtin) (ts : Array TypeId) (args : List V) (mem : Nat → Option Blk) (id : Nat) : Option Fx :=
  match b, args with
  | .len, [x] => match ts[0]?, lenV x with
    | some t, some n => match tkAt P t, x with
      | some (.sli _), .sc (.slice none 0 0) | some (.sli _), .sl .. | some (.sli _), .lst .. => some ⟨.sc (.int .i64 n), none⟩
      | some .str8, .sc (.string _) => some ⟨.sc (.int .i64 n), none⟩
      | _, _ => none
    | _, _ => none
  | .append, [s, x] => if ts.size = 2 then match ts[0]?, ts[1]? with
    | some t, some t' => if t = t' then evAppend P t s x mem id else none
    | _, _ => none else none
  | .max, xs => (evMinMax mx2 xs).map (⟨·, none⟩)
  | .min, xs => (evMinMax mn2 xs).map (⟨·, none⟩)
  | _, _ => none

def fxAlloc (P : Program) (t : TypeId) (id : Nat) : Option Fx :=
  match tiOf P t with
  | some ti => if ti.zero.all Value.flat1 then some ⟨.ptr id 0 0, some (id, .box (ti.zero.map .sc))⟩ else none
  | none => none
def fxBox (x : V) (id : Nat) : Option Fx :=
  match x.cellsOf with
  | some cs => some ⟨.ptr id 0 0, some (id, .box cs)⟩
  | none => none
def fxPick (c a b : V) : Option Fx :=
  match c with
  | .sc (.bool t) => some ⟨if t then a else b, none⟩
  | _ => none
def fxBuild (P : Program) (t : TypeId) (parts : List (Nat × V)) : Option Fx :=
  match tiOf P t with
  | some ti => if ti.zero.all Value.flat1 then match ti.k with
    | .str fs => if fs.all (fun f => (tiOf P f.2).isSome) then (fillV (fun i => (fs[i]?).bind fun f => (tiOf P f.2).map fun j => (f.1, j.size)) (ti.zero.map .sc) parts).map fun cs => ⟨.agg cs, none⟩ else none
    | .arr _ e => match tiOf P e with
      | some j => (fillV (fun i => some (i * j.size, j.size)) (ti.zero.map .sc) parts).map fun cs => ⟨.agg cs, none⟩
      | none => none
    | _ => none
    else none
  | none => none
def fxBuildSlice (P : Program) (t : TypeId) (len : Nat) (parts : List (Nat × V)) (id : Nat) : Option Fx :=
  match tkAt P t with
  | some (.sli te) => match tiOf P te with
    | some j => if 0 < j.size ∧ len * j.size ≤ 16777216 ∧ j.zero.all Value.flat1 ∧ j.zero.length = j.size then
        (fillV (fun i => some (i * j.size, j.size)) ((List.replicate len (j.zero.map V.sc)).flatten) parts).map fun cs => ⟨.sl id 0 j.size 0 len, some (id, .arr te j.size 0 cs)⟩
      else none
    | none => none
  | _ => none
def fxLoad (P : Program) (t : TypeId) (a : V) (mem : Nat → Option Blk) : Option Fx :=
  match tiOf P t with
  | some ti => match a with
    | .ptr b ver o => match mem b with
      | some k => if k.hasVer ver then (loadV ti (k.cells.drop o)).map (⟨·, none⟩) else none
      | none => none
    | .rp cs => (loadV ti cs).map (⟨·, none⟩)
    | _ => none
  | none => none
def fxStore (P : Program) (t : TypeId) (a x : V) (mem : Nat → Option Blk) : Option Fx :=
  match tiOf P t with
  | some ti => match a, x.cellsOf with
    | .ptr b ver o, some ds => match mem b with
      | some k => if k.hasVer ver ∧ ds.length = ti.size ∧ o + ds.length ≤ k.cells.length then some ⟨.any, some (b, k.put (splice k.cells o ds))⟩ else none
      | none => none
    | _, _ => none
  | none => none
def fxNilCheck (x : V) : Option Fx :=
  match x with
  | .ptr b ver o => some ⟨.ptr b ver o, none⟩
  | .rp cs => some ⟨.rp cs, none⟩
  | .fn (.func f) caps => some ⟨.fn (.func f) caps, none⟩
  | _ => none
def fxFieldAddr (P : Program) (s : TypeId) (x : V) (f : Nat) : Option Fx :=
  match tkAt P s with
  | some (.str fs) => match fs[f]? with
    | some (off, ft) => match tiOf P ft with
      | some j => if j.size = 0 then none else match x with
        | .ptr b ver o => some ⟨.ptr b ver (o + off), none⟩
        | .rp cs => some ⟨.rp (cs.drop off), none⟩
        | _ => none
      | none => none
    | none => none
  | _ => none
def fxField (P : Program) (t : TypeId) (x : V) (f : Nat) : Option Fx :=
  match tkAt P t, x with
  | some (.str fs), .agg cs => match fs[f]? with
    | some (off, ft) => match tiOf P ft with
      | some j => if j.k.isAgg then (if off + j.size ≤ cs.length then some ⟨.agg ((cs.drop off).take j.size), none⟩ else none) else (cs[off]?).map (⟨·, none⟩)
      | none => none
    | none => none
  | _, _ => none
def fxIndexAddr (P : Program) (t : TypeId) (x i : V) : Option Fx :=
  match i with
  | .sc (.int _ n) => match tkAt P t with
    | some (.sli te) => match tiOf P te with
      | some j => match x with
        | .lst _ e m cs => if 0 ≤ n ∧ n < m ∧ e = j.size then some ⟨.rp ((cs.drop (n.toNat * e)).take e), none⟩ else none
        | .sl b ver e off len => if e = j.size ∧ 0 ≤ n ∧ n < len then some ⟨.ptr b ver ((off + n.toNat) * e), none⟩ else none
        | _ => none
      | none => none
    | some (.arr len te) => match tiOf P te with
      | some j => if 0 ≤ n ∧ n < len then match x with
        | .ptr b ver o => some ⟨.ptr b ver (o + n.toNat * j.size), none⟩
        | .rp cs => some ⟨.rp (cs.drop (n.toNat * j.size)), none⟩
        | _ => none
        else none
      | none => none
    | _ => none
  | _ => none
def fxIndex (P : Program) (t : TypeId) (x i : V) : Option Fx :=
  match i, tkAt P t, x with
  | .sc (.int _ n), some (.arr len te), .agg cs => match tiOf P te with
    | some j => if 0 ≤ n ∧ n < len then (if j.k.isAgg then (if n.toNat * j.size + j.size ≤ cs.length then some ⟨.agg ((cs.drop (n.toNat * j.size)).take j.size), none⟩ else none) else (cs[n.toNat * j.size]?).map (⟨·, none⟩)) else none
    | none => none
  | .sc (.int _ n), some .str8, .sc (.string s) => if 0 ≤ n ∧ n.toNat < s.size then some ⟨.sc (.int .u8 (s.get! n.toNat).toNat), none⟩ else none
  | _, _, _ => none
def fxExtract (x : V) (i : Nat) : Option Fx :=
  match x with
  | .tup vs => (vs[i]?).map (⟨·, none⟩)
  | _ => none
def fxMakeSlice (P : Program) (t : TypeId) (l c : V) (id : Nat) : Option Fx :=
  match tkAt P t, l, c with
  | some (.sli te), .sc (.int _ l), .sc (.int _ c) => match tiOf P te with
    | some j => if 0 < j.size ∧ 0 ≤ l ∧ l ≤ c ∧ roomy c.toNat j.bytes = true ∧ j.zero.all Value.flat1 ∧ j.zero.length = j.size then
        some ⟨.sl id 0 j.size 0 l.toNat, some (id, .arr te j.size 0 ((List.replicate l.toNat (j.zero.map V.sc)).flatten))⟩ else none
    | none => none
  | _, _, _ => none
def fxConvert (P : Program) (s d : TypeId) (x : V) : Option Fx :=
  match tkAt P s, tkAt P d, x with
  | some (.int _), some (.int k), .sc (.int _ n) => some ⟨.sc (.int k (k.wrap n)), none⟩
  | _, _, _ => none
def bdV (d : Nat) : Option V → Option Nat
  | none => some d
  | some (.sc (.int _ n)) => if 0 ≤ n then some n.toNat else none
  | _ => none
def fxSlice (P : Program) (t : TypeId) (x : V) (lo hi : Option V) : Option Fx :=
  match tkAt P t with
  | some (.sli te) => match tiOf P te with
    | some j => match x with
      | .lst new e n cs => match bdV 0 lo, bdV n hi with
        | some l, some h => if e = j.size ∧ l ≤ h ∧ h ≤ n then some ⟨.lst new e (h - l) ((cs.drop (l * e)).take ((h - l) * e)), none⟩ else none
        | _, _ => none
      | .sl b ver e off len => match bdV 0 lo, bdV len hi with
        | some l, some h => if e = j.size ∧ l < h ∧ h ≤ len then some ⟨.sl b ver e (off + l) (h - l), none⟩ else if e = j.size ∧ l = h ∧ h ≤ len then some ⟨.lst false e 0 [], none⟩ else none
        | _, _ => none
      | _ => none
    | none => none
  | _ => none
def opFx (P : Program) (op : Op) (ev : Operand → V) (mem : Nat → Option Blk) (id : Nat) : Option Fx :=
  match op with
  | .move x | .assign x => some ⟨ev x, none⟩
  | .pick c a b => fxPick (ev c) (ev a) (ev b)
  | .alloc t => fxAlloc P t id
  | .box _ x => fxBox (ev x) id
  | .build t parts => fxBuild P t (parts.toList.map fun p => (p.1, ev p.2))
  | .buildSlice t len parts => fxBuildSlice P t len (parts.toList.map fun p => (p.1, ev p.2)) id
  | .load t a => fxLoad P t (ev a) mem
  | .store t a x => fxStore P t (ev a) (ev x) mem
  | .nilCheck x => fxNilCheck (ev x)
  | .fieldAddr s x f => fxFieldAddr P s (ev x) f
  | .field t x f => fxField P t (ev x) f
  | .indexAddr t x i => fxIndexAddr P t (ev x) (ev i)
  | .index t x i => fxIndex P t (ev x) (ev i)
  | .slice t x lo hi none => fxSlice P t (ev x) (lo.map ev) (hi.map ev)
  | .extract x i => fxExtract (ev x) i
  | .makeSlice t l c => fxMakeSlice P t (ev l) (ev c) id
  | .makeFunc f first caps => if first.isEmpty then some ⟨.fn f (caps.toList.map ev), none⟩ else none
  | .binOp op t x y _ => (evBin (tkAt P t) op (ev x) (ev y)).map (⟨·, none⟩)
  | .unOp op _ x => (evUn op (ev x)).map (⟨·, none⟩)
  | .convert s d x => fxConvert P s d (ev x)
  | .call { callee := .builtin b, args, argTypes } => evBuiltin P b argTypes (args.toList.map ev) mem id
  | _ => none
end Go.Abs
